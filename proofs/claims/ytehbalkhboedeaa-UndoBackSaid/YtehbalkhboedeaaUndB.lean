/- What one sets and notes is taken back: plain. -/
import Derived.Test.YtehbalkhboedeaaStore3
import Derived.Test.YtehbalkhboedeaaUndN
import Derived.Test.YtehbalkhboedeaaUnd9
namespace Go.Proofs.Ytehbalkhboedeaa
open Go Go.Eng Go.RowKit
set_option maxRecDepth 100000
set_option maxHeartbeats 8000000
set_option linter.unusedVariables false
set_option linter.unusedSimpArgs false
def toU (r : Eng.Rw) : Rw := ⟨r.p.a, r.p.b, r.p.c, r.p.d, r.p.n, r.v⟩
theorem toU_enc (r : Eng.Rw) : encU (toU r) = encR r := rfl
def lgOf (tx : Int) (rs : List Eng.Rw) : Lg := rs.map fun r => (tx, toU r)
theorem gOf_lgOf (tx : Int) (rs : List Eng.Rw) : gOf (lgOf tx rs) tx = rs.map toU := by
  unfold gOf lgOf
  rw [List.filter_eq_self.2 (fun p hp => by obtain ⟨r, _, rfl⟩ := List.mem_map.1 hp; simp), List.map_map]
  rfl
theorem gOf_lgOf_ne {tx : Int} {rs : List Eng.Rw} {k : Int} (h : k ≠ tx) : gOf (lgOf tx rs) k = [] := by
  unfold gOf lgOf
  rw [List.filter_eq_nil_iff.2 (fun p hp => by obtain ⟨r, _, rfl⟩ := List.mem_map.1 hp; simpa using fun e => h e.symm)]
  rfl
theorem updG_lgOf (tx : Int) (rs rs' : List Eng.Rw) : updG (gOf (lgOf tx rs)) tx (rs'.map toU) = gOf (lgOf tx rs') := by
  funext k
  unfold updG
  split
  · rename_i e; subst e; rw [gOf_lgOf]
  · rename_i e; rw [gOf_lgOf_ne e, gOf_lgOf_ne e]
theorem lgOk_lgOf {tx : Int} {rs : List Eng.Rw} (hw : (Lit.int .i64 tx).wf = true) (h : rs.length ≤ 1000) : LgOk (lgOf tx rs) :=
  ⟨by unfold lgOf; rw [List.length_map]; exact h, fun p hp => by obtain ⟨r, _, rfl⟩ := List.mem_map.1 hp; exact hw⟩
theorem backB_fn (tx : Int) (rs : List Eng.Rw) (x : Eng.Rw) (hw : (Lit.int .i64 tx).wf = true) (h : rs.length < 1000) :
    FnM Try.prog 11 [.c (.p 0 0), .c (.i .i64 tx)] [logI, logA (gOf (lgOf tx (rs ++ [x])))] [.p 0 0] (.t [.a (encR x), .c (.b true)]) [logI, logA (gOf (lgOf tx rs))] := by
  have := lback_fn (lgOf tx (rs ++ [x])) tx (lgOk_lgOf hw (by simp; omega))
  rw [gOf_lgOf, List.map_append] at this
  simp only [List.map_cons, List.map_nil, List.dropLast_concat] at this
  rw [updG_lgOf] at this
  rw [show (rs.map toU ++ [toU x]).isEmpty = false by cases rs <;> rfl, List.getLastD_concat, toU_enc] at this
  exact this
theorem backE_fn (tx : Int) (hw : (Lit.int .i64 tx).wf = true) :
    FnM Try.prog 11 [.c (.p 0 0), .c (.i .i64 tx)] [logI, logA (gOf (lgOf tx []))] [.p 0 0] (.t [.a (encU ⟨0, 0, 0, 0, 0, 0⟩), .c (.b false)]) [logI, logA (gOf (lgOf tx []))] := by
  have := lback_fn (lgOf tx []) tx (lgOk_lgOf hw (by simp))
  rw [gOf_lgOf] at this
  rw [show ([] : List Eng.Rw).map toU = [] from rfl, show ([] : List Rw).dropLast = ([] : List Eng.Rw).map toU from rfl, updG_lgOf] at this
  exact this
theorem noteB_fn (tx : Int) (rs : List Eng.Rw) (p : Pth) (v : Int) (ht : 1 ≤ tx) (h : rs.length ≤ 1000) :
    FnM Try.prog 15 [.c (.p 0 0), .c (.i .i64 tx), .a (Eng.encP p), .c (.i .i64 v)] [logI, logA (gOf (lgOf tx rs))] [.p 0 0] (.c (.b true)) [logI, logA (gOf (lgOf tx (rs ++ [⟨p, v⟩])))] := by
  have := note_fn (gOf (lgOf tx rs)) tx (toU ⟨p, v⟩) (by rw [gOf_lgOf, List.length_map]; exact h)
  rw [noteG, if_pos ht, gOf_lgOf, decide_eq_true ht] at this
  have e : rs.map toU ++ [toU ⟨p, v⟩] = (rs ++ [(⟨p, v⟩ : Eng.Rw)]).map toU := by simp
  rw [e, updG_lgOf] at this
  exact this
theorem lenB_fn (tx : Int) (rs : List Eng.Rw) (hw : (Lit.int .i64 tx).wf = true) (h : rs.length ≤ 1000) :
    FnM Try.prog 17 [.c (.p 0 0), .c (.i .i64 tx)] [logI, logA (gOf (lgOf tx rs))] [.p 0 0] (.c (.i .i64 rs.length)) [logI, logA (gOf (lgOf tx rs))] := by
  have := len_fn (lgOf tx rs) tx (lgOk_lgOf hw h)
  rw [gOf_lgOf, List.length_map] at this
  exact this

/-! ### the store, plain -/
/-- A store: its paths, and what it has at each. -/
structure Sto where
  ds : List MP
  f : List Int → Int × Int
structure Sto.Ok (s : Sto) : Prop where
  nd : s.ds.Nodup
  dom : KDom (s.ds.map kM) s.f
  bd : ∀ k, 0 ≤ (s.f k).1 ∧ (s.f k).1 ≤ 1073741824
def insM (ds : List MP) (m : MP) : List MP := if m ∈ ds then ds else ds ++ [m]
theorem insD_M (ds : List MP) (m : MP) : insD (ds.map kM) (kM m) = (insM ds m).map kM := by
  unfold insD insM
  by_cases h : m ∈ ds
  · rw [if_pos h, if_pos (List.mem_map.2 ⟨m, h, rfl⟩)]
  · rw [if_neg h, if_neg (fun e => by obtain ⟨m', h1, h2⟩ := List.mem_map.1 e; exact h (kM_inj h2 ▸ h1)), List.map_append]; rfl
theorem insM_len (ds : List MP) (m : MP) : (insM ds m).length ≤ ds.length + 1 := by
  unfold insM; split
  · omega
  · simp
theorem insM_nd {ds : List MP} {m : MP} (h : ds.Nodup) : (insM ds m).Nodup := by
  unfold insM
  split
  · exact h
  · rename_i hm
    rw [List.nodup_append]
    exact ⟨h, by simp, fun a ha b hb => by simp at hb; subst hb; exact fun e => hm (e ▸ ha)⟩
def Sto.set (s : Sto) (m : MP) (v : Int) : Sto := ⟨insM s.ds m, updF s.f (kM m) (v, IntKind.i64.wrap ((s.f (kM m)).2 + 1))⟩
theorem Sto.Ok.set {s : Sto} (h : s.Ok) (m : MP) {v : Int} (hv : 0 ≤ v ∧ v ≤ 1073741824) : (s.set m v).Ok where
  nd := insM_nd h.nd
  dom := by
    have := updF_dom h.dom (kM m) (v, IntKind.i64.wrap ((s.f (kM m)).2 + 1))
    rw [insD_M] at this
    exact this
  bd k := by
    show 0 ≤ (updF s.f (kM m) (v, _) k).1 ∧ _
    unfold Sto.set updF
    dsimp only
    split
    · exact hv
    · exact h.bd k
def Sto.val (s : Sto) (k : List Int) : Int := (s.f k).1
def updI (g : List Int → Int) (k : List Int) (v : Int) : List Int → Int := fun q => if q = k then v else g q
theorem Sto.val_set (s : Sto) (m : MP) (v : Int) : (s.set m v).val = updI s.val (kM m) v := by
  funext q
  show (updF s.f (kM m) (v, _) q).1 = _
  unfold updF updI Sto.val
  split <;> rfl
/-- What there is once some rows, the last one first, have been taken back. -/
def vbk (g : List Int → Int) (rs : List Eng.Rw) : List Int → Int := rs.foldr (fun x g => updI g (kP x.p) x.v) g
theorem vbk_snoc (g : List Int → Int) (rs : List Eng.Rw) (x : Eng.Rw) : vbk g (rs ++ [x]) = vbk (updI g (kP x.p) x.v) rs := by
  unfold vbk; rw [List.foldr_append]; rfl
theorem updI_back (g : List Int → Int) (k : List Int) (v : Int) : updI (updI g k v) k (g k) = g := by
  funext q
  unfold updI
  split
  · rename_i e; rw [e]
  · rfl
theorem rows_same {s s' : Sto} (h : s.Ok) (h' : s'.Ok) (e : s.val = s'.val) : rowsM s.ds s.f = rowsM s'.ds s'.f := by
  have hv : ∀ k, (s.f k).1 = (s'.f k).1 := fun k => congrFun e k
  have hm : ∀ {t : Sto}, t.Ok → ∀ m : MP, m ∈ t.ds.filter (nzM t.f) ↔ (t.f (kM m)).1 ≠ 0 := by
    intro t ht m
    rw [List.mem_filter]
    constructor
    · intro hh; simpa [nzM] using hh.2
    · intro hh
      refine ⟨Classical.byContradiction fun hn => ?_, by simpa [nzM] using hh⟩
      have := ht.dom (kM m) (fun hc => by obtain ⟨m', h1, h2⟩ := List.mem_map.1 hc; exact hn (kM_inj h2 ▸ h1))
      rw [this] at hh
      exact hh rfl
  have hp : (s.ds.filter (nzM s.f)).Perm (s'.ds.filter (nzM s'.f)) := by
    rw [List.perm_ext_iff_of_nodup (h.nd.filter _) (h'.nd.filter _)]
    intro m
    rw [hm h, hm h', hv]
  unfold rowsM
  rw [srtM_perm hp]
  apply List.map_congr_left
  intro m _
  unfold rwM
  rw [hv]
theorem rowsM_len (s : Sto) : (rowsM s.ds s.f).length ≤ s.ds.length := by
  unfold rowsM srtM
  rw [List.length_map, List.length_mergeSort]
  exact List.length_filter_le _ _
end Go.Proofs.Ytehbalkhboedeaa
