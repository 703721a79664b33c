/- The store: set. -/
import Derived.Test.YtehbalkhboedeaaStore
import Derived.Test.YtehbalkhboedeaaEngGu
import Derived.Test.YtehbalkhboedeaaLess
namespace Go.Eng
open Go Go.RowKit
section
variable {C : Cx} (hT : TabOk C.P C.T) {ts : List XV} {h : List It} {k : KE}
include hT in
/-- m != nil -/
theorem opx_nemapA {dst : Option Tmp} {t rt : TypeId} {x y : Operand} {ty : TypeId} {pos : String} {after : Array Edge} {guard : Option (Nat × Bool)} {it vz kt et : Nat} {ag va : Bool} {ks : List IntKind} {dom : List (List Int)} {val : List Int → List XC} {ti : TI}
    (hx : opv ts x = .c (.ow it)) (hit : itemAt h it = .abs (MapA ag ks va vz dom val)) (hy : opv ts y = .c (.v (.map none))) (ht : C.T t = some ti) (hkd : ti.kd = .mp kt et)
    (hk : k (.c .bt) ts h) : OpX C ⟨dst, .binOp .neq t x y rt, ty, pos, after, guard⟩ ts h k := by
  unfold OpX
  refine And.intro (fun c e => Op.noConfusion e) ?_
  intro w0 F E w a hr hp
  have hxr := opv_rel (E := E) hr x
  have hyr := opv_rel (E := E) hr y
  rw [hx] at hxr
  rw [hy] at hyr
  have hyr : a.eval y = .map none := hyr.1
  obtain ⟨b, _, _, hv, _⟩ := hp.ok it _ (itemAt_eq _ _ hit (by simp))
  have hv : a.eval x = .map (some b) := hxr.2.1.trans hv
  have hu := mkKd_mp ((TIs.of (hT _ _ ht)).kd.symm.trans hkd)
  have hrun : (execOp a.eval ⟨dst, .binOp .neq t x y rt, ty, pos, after, guard⟩).run C.P w = .ok (.value (.bool true)) w := by
    simp only [execOp, hv, hyr, eqGuard_mp, Sem.run_bind, Sem.run_pure, Result.andThen_ok, binOp, Op.equal, Op.maxDepth]
    rw [run_eq_mp_nil hu _ 9999]; simp
  exact ⟨_, _, w, _, ts, h, E, .inl rfl, hrun, hk, rfl, hr, hp⟩
include hT in
/-- m[k], an entry's value or the zero one -/
theorem valr_lookA {dst : Option Tmp} {t : TypeId} {x y : Operand} {ty : TypeId} {pos : String} {after : Array Edge} {guard : Option (Nat × Bool)} {it : Nat} {ag : Bool} {ks : List IntKind} {vz : Nat} {dom : List (List Int)} {val : List Int → List XC} {q : List Int} {kt et : TypeId} {ei : TI} (l : List XC)
    (hx : opv ts x = .c (.ow it)) (hit : itemAt h it = .abs (MapA ag ks true vz dom val)) (hy : kx (opv ts y) = some (ks, q)) (hya : isA (opv ts y) = ag) (ht : fitMp C.T t ks.length ag = some (kt, et, ei)) (hva : ei.agg = true)
    (hin : q ∈ dom → entL (val q) l) (hout : q ∉ dom → entL (zeroX ei.zero) l) : ValR C ⟨dst, .lookup t x y false, ty, pos, after, guard⟩ ts h (.a l) := by
  intro w0 F E w a hr hp
  have hxr := opv_rel hr x
  have hyr := opv_rel hr y
  rw [hx] at hxr
  have hi := itemAt_eq _ _ hit (by simp)
  obtain ⟨b, es, clock, hv, hS, hw, hrel, hnd, hpw, hcl⟩ := hp.ok it _ hi
  obtain ⟨hkey, hlen⟩ := kx_rel hy hyr
  rw [hya] at hkey
  obtain ⟨hu, K, hei⟩ := fitMp_spec hT ht
  have hxv : a.eval x = .map (some b) := hxr.2.1.trans hv
  have hobj : (getObj b).run C.P w = .ok (.map es clock) w := by simp [getObj, Sem.run, hw]
  rcases find_key (w := w) K hlen hrel with ⟨h1, h2⟩ | ⟨j, e, h1, h2, h3⟩
  · have hz := zero_val hei w
    rw [hva] at hz
    refine ⟨mkVal true ei.zero, ⟨_, rfl, entL_rel (hout h1) (by simpa using zeroX_rel E ei.zero (TIs.of hei).zone)⟩, ?_⟩
    simp [execOp, Instr.lookup, run_underlying hu, hxv, hobj, hkey, check_key K hlen, h2, hz]
  · obtain ⟨_, _, us, hul, hev, hur, hst⟩ := esrel_at j hrel h1 h2
    have hur' : RelL E (val q) us := RelL.ofSt (E := ⟨E.bs, 0, fun _ => 0, fun _ => undef, fun _ _ => False⟩) (E' := E) rfl hst hur
    have hmem : q ∈ dom := List.mem_of_getElem? h2
    refine ⟨mkVal true us, ⟨_, rfl, entL_rel (hin hmem) (by simpa using hur')⟩, ?_⟩
    simp [execOp, Instr.lookup, run_underlying hu, hxv, hobj, hkey, check_key K hlen, h3, hev]
end
end Go.Eng
namespace Go.Proofs.Ytehbalkhboedeaa
open Go Go.Eng Go.RowKit
set_option maxRecDepth 100000
set_option maxHeartbeats 8000000
set_option linter.unusedVariables false
set_option linter.unusedSimpArgs false
def SetOk (a b c d n v : Int) : Prop := MayP a b c d n ∧ n = 4 ∧ 0 ≤ v ∧ v ≤ 1073741824
instance (a b c d n v : Int) : Decidable (SetOk a b c d n v) := by unfold SetOk; infer_instance
abbrev kP (p : Pth) : List Int := [p.a, p.b, p.c, p.d, p.n]
abbrev KDom (dom : List (List Int)) (f : List Int → Int × Int) : Prop := ∀ k, k ∉ dom → f k = (0, 0)
theorem sat_fn (dom : List (List Int)) (f : List Int → Int × Int) (hf : KDom dom f) (p : Pth) :
    FnM Try.prog 47 [.c (.p 0 0), .a (encP p)] [storI, storA dom f] [.p 0 0] (.a [.i .i64 (f (kP p)).1, .i .i64 (f (kP p)).2]) [storI, storA dom f] := by
  refine FnM.of tab_ok Try.func47 (by kernel_rfl) (by kernel_rfl) (fun vs => ?_)
  conv => whnf
  refine callx_inline tab_ok Try.func45 (by kernel_rfl) (by kernel_rfl) (fun us => ?_)
  conv => whnf
  refine opx_nemapA tab_ok rfl rfl rfl rfl rfl ?_
  conv => whnf
  refine ⟨rfl, ?_⟩
  conv => whnf
  refine drawx_plan tab_ok [4] (.take 0 (.take 1 (.take 2 (.take 3 (.take 4 (.one 5 (.one 6 .done))))))) (by kernel_rfl) (by kernel_rfl) (by kernel_rfl) ?_
  conv => whnf
  refine opf_valr (valr_lookA tab_ok [.i .i64 (f (kP p)).1, .i .i64 (f (kP p)).2] rfl rfl rfl rfl rfl rfl (fun _ => entL_refl _) (fun h => ?_)) ?_
  · rw [hf _ h]
    exact ⟨⟨rfl, rfl⟩, ⟨rfl, rfl⟩, trivial⟩
  conv => whnf
  exact mt_done (v := .a [.i .i64 (f (kP p)).1, .i .i64 (f (kP p)).2]) (hs' := [storI, storA dom f]) (fx := [.p 0 0]) (x := .a [.i .i64 (f (kP p)).1, .i .i64 (f (kP p)).2]) (ys := [.c (.p 0 0)]) [0, 1] 2 rfl rfl rfl rfl rfl (entV_refl _) ⟨entV_refl _, trivial⟩ ⟨⟨rfl, entL_refl _⟩, fun _ _ _ _ h => h, trivial⟩
def updF (f : List Int → Int × Int) (k : List Int) (v : Int × Int) : List Int → Int × Int := fun q => if q = k then v else f q
theorem updF_dom {dom : List (List Int)} {f : List Int → Int × Int} (h : KDom dom f) (k : List Int) (v : Int × Int) : KDom (insD dom k) (updF f k v) := by
  intro q hq
  unfold insD at hq
  unfold updF
  split at hq
  · rename_i hk
    rw [if_neg (fun e => hq (by rw [e]; exact hk))]; exact h q hq
  · have h1 : q ∉ dom := fun e => hq (List.mem_append_left _ e)
    have h2 : q ≠ k := fun e => hq (by rw [e]; simp)
    rw [if_neg h2]; exact h q h1
abbrev SetQ (p : Pth) (v : Int) : Prop := SetOk p.a p.b p.c p.d p.n v
theorem set1_fn (dom : List (List Int)) (f : List Int → Int × Int) (hf : KDom dom f) (p : Pth) (v : Int) (hok : SetQ p v) :
    FnM Try.prog 21 [.c (.p 0 0), .a (encP p), .c (.i .i64 v)] [storI, storA dom f] [.p 0 0] (.t [.c (.i .i64 (f (kP p)).1), .c (.i .i64 0)]) [storI, storA (insD dom (kP p)) (updF f (kP p) (v, IntKind.i64.wrap ((f (kP p)).2 + 1)))] := by
  refine FnM.of tab_ok Try.func21 (by kernel_rfl) (by kernel_rfl) (fun vs => ?_)
  conv => whnf
  refine callx_inline tab_ok Try.func45 (by kernel_rfl) (by kernel_rfl) (fun us => ?_)
  conv => whnf
  refine opx_nemapA tab_ok rfl rfl rfl rfl rfl ?_
  conv => whnf
  refine ⟨rfl, ?_⟩
  conv => whnf
  refine callx_tells (pathMay_fn p.a p.b p.c p.d p.n) rfl trivial ?_
  conv => whnf
  refine And.intro (fun h => absurd hok.1 (by simpa using h)) (fun h => ?_)
  conv => whnf
  refine And.intro (fun h => ?_) (fun h => ?_)
  · exact absurd hok.2.1 (by simpa using h)
  conv => whnf
  refine And.intro (fun h => ?_) (fun h => ?_)
  · have := hok.2.2.1; simp at h; omega
  conv => whnf
  refine And.intro (fun h => ?_) (fun h => ?_)
  · have := hok.2.2.2; simp at h; omega
  conv => whnf
  refine callx_m (sat_fn dom f hf p) [0, 1] (by kernel_rfl) ⟨entV_refl _, entV_refl _, trivial⟩ ⟨⟨rfl, entL_refl _⟩, fun _ _ _ _ h => h, trivial⟩ ?_
  conv => whnf
  refine drawx_plan tab_ok [1] (.take 0 (.take 1 (.take 2 (.take 3 (.take 4 (.take 5 (.take 6 (.take 7 (.take 8 (.take 9 (.one 10 .done))))))))))) (by kernel_rfl) (by kernel_rfl) (by kernel_rfl) ?_
  conv => whnf
  refine opf_updA tab_ok (ag := true) (va := true) (vz := 2) (ks := ks5) (q := kP p) (l := [.i .i64 v, .i .i64 (IntKind.i64.wrap ((f (kP p)).2 + 1))]) rfl rfl rfl rfl rfl rfl rfl rfl rfl rfl ?_
  conv => whnf
  have e : updV (fun p => [.i .i64 (f p).1, .i .i64 (f p).2]) (kP p) [.i .i64 v, .i .i64 (IntKind.i64.wrap ((f (kP p)).2 + 1))] = fun q => [.i .i64 (updF f (kP p) (v, IntKind.i64.wrap ((f (kP p)).2 + 1)) q).1, .i .i64 (updF f (kP p) (v, IntKind.i64.wrap ((f (kP p)).2 + 1)) q).2] := by
    funext q
    unfold updV updF
    split <;> rfl
  rw [e]
  exact mt_done_t (l := [.c (.i .i64 (f (kP p)).1), .c (.i .i64 0)]) (hs' := [storI, storA (insD dom (kP p)) (updF f (kP p) (v, IntKind.i64.wrap ((f (kP p)).2 + 1)))]) (fx := [.p 0 0]) (x := .t [.c (.i .i64 (f (kP p)).1), .c (.il .i64 0)]) (ys := [.c (.p 0 0)]) [0, 1] 2 rfl rfl rfl (by simp) rfl rfl ⟨⟨rfl, rfl⟩, ⟨rfl, rfl⟩, trivial⟩ ⟨entV_refl _, trivial⟩ ⟨⟨rfl, entL_refl _⟩, fun _ _ _ _ h => h, trivial⟩
theorem set0_fn (dom : List (List Int)) (f : List Int → Int × Int) (p : Pth) (v : Int) (hok : ¬ SetQ p v) :
    FnM Try.prog 21 [.c (.p 0 0), .a (encP p), .c (.i .i64 v)] [storI, storA dom f] [.p 0 0] (.t [.c (.i .i64 0), .c (.i .i64 1)]) [storI, storA dom f] := by
  refine FnM.of tab_ok Try.func21 (by kernel_rfl) (by kernel_rfl) (fun vs => ?_)
  conv => whnf
  refine callx_inline tab_ok Try.func45 (by kernel_rfl) (by kernel_rfl) (fun us => ?_)
  conv => whnf
  refine opx_nemapA tab_ok rfl rfl rfl rfl rfl ?_
  conv => whnf
  refine ⟨rfl, ?_⟩
  conv => whnf
  refine callx_tells (pathMay_fn p.a p.b p.c p.d p.n) rfl trivial ?_
  conv => whnf
  refine And.intro (fun h1 => ?_) (fun h1 => ?_)
  · conv => whnf
    exact mt_done_t (l := [.c (.i .i64 0), .c (.i .i64 1)]) (hs' := [storI, storA dom f]) (fx := [.p 0 0]) (x := .t [.c (.il .i64 0), .c (.il .i64 1)]) (ys := [.c (.p 0 0)]) [0, 1] 2 rfl rfl rfl (by simp) rfl rfl ⟨⟨rfl, rfl⟩, ⟨rfl, rfl⟩, trivial⟩ ⟨entV_refl _, trivial⟩ ⟨⟨rfl, entL_refl _⟩, fun _ _ _ _ h => h, trivial⟩
  conv => whnf
  refine And.intro (fun h2 => ?_) (fun h2 => ?_)
  · conv => whnf
    exact mt_done_t (l := [.c (.i .i64 0), .c (.i .i64 1)]) (hs' := [storI, storA dom f]) (fx := [.p 0 0]) (x := .t [.c (.il .i64 0), .c (.il .i64 1)]) (ys := [.c (.p 0 0)]) [0, 1] 2 rfl rfl rfl (by simp) rfl rfl ⟨⟨rfl, rfl⟩, ⟨rfl, rfl⟩, trivial⟩ ⟨entV_refl _, trivial⟩ ⟨⟨rfl, entL_refl _⟩, fun _ _ _ _ h => h, trivial⟩
  conv => whnf
  refine And.intro (fun h3 => ?_) (fun h3 => ?_)
  · conv => whnf
    exact mt_done_t (l := [.c (.i .i64 0), .c (.i .i64 1)]) (hs' := [storI, storA dom f]) (fx := [.p 0 0]) (x := .t [.c (.il .i64 0), .c (.il .i64 1)]) (ys := [.c (.p 0 0)]) [0, 1] 2 rfl rfl rfl (by simp) rfl rfl ⟨⟨rfl, rfl⟩, ⟨rfl, rfl⟩, trivial⟩ ⟨entV_refl _, trivial⟩ ⟨⟨rfl, entL_refl _⟩, fun _ _ _ _ h => h, trivial⟩
  conv => whnf
  refine And.intro (fun h4 => ?_) (fun h4 => ?_)
  · conv => whnf
    exact mt_done_t (l := [.c (.i .i64 0), .c (.i .i64 1)]) (hs' := [storI, storA dom f]) (fx := [.p 0 0]) (x := .t [.c (.il .i64 0), .c (.il .i64 1)]) (ys := [.c (.p 0 0)]) [0, 1] 2 rfl rfl rfl (by simp) rfl rfl ⟨⟨rfl, rfl⟩, ⟨rfl, rfl⟩, trivial⟩ ⟨entV_refl _, trivial⟩ ⟨⟨rfl, entL_refl _⟩, fun _ _ _ _ h => h, trivial⟩
  · exfalso
    simp at h1 h2 h3 h4
    exact hok ⟨h1, h2, h3, h4⟩
end Go.Proofs.Ytehbalkhboedeaa
