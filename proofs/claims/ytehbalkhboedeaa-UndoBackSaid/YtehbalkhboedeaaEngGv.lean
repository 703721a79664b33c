/- The engine, part Gv: rounds that leave most items alone. Nothing of any program is proved here. -/
import Derived.Test.YtehbalkhboedeaaEngX
import Derived.Test.YtehbalkhboedeaaEngGl
import Derived.Test.YtehbalkhboedeaaEngGn
namespace Go.Eng
open Go Go.RowKit
def setsK : List It → List (Nat × It) → (List It → Prop) → Prop
  | h, [], k => k h
  | h, (i, x) :: l, k => setH h i x fun h => setsK h l k
def setsL : List It → List (Nat × It) → List It
  | h, [] => h
  | h, (i, x) :: l => setsL (h.set i x) l
theorem setsK_eq : ∀ (h : List It) (l : List (Nat × It)) (k : List It → Prop), setsK h l k = k (setsL h l)
  | _, [], _ => rfl
  | h, (i, x) :: l, k => by rw [setsK, setH_eq, setsK_eq (h.set i x) l, setsL]
section
variable {C : Cx} (hT : TabOk C.P C.T)
include hT in
/-- A loop: of the items only those of U turn. -/
theorem loopi_h {b : Code} {Q : KQ} {ts : List XV} {h : List It} {ι : Type} (I : ι → Prop) (S : ι → List (Nat × XV)) (U : ι → List (Nat × It)) (μ : ι → Nat) (i0 : ι) (n : Nat) (hn : n = ts.length) (hI : I i0) (h0 : setsK h (U i0) fun h' => Wk ts h (S i0) h')
    (hstep : ∀ i, I i → setsK h (U i) fun h' => forceTs (frame n (S i)) fun t => codeX C b (roundQ (fun t h2 => ∃ j, I j ∧ μ j < μ i ∧ t.length = n ∧ setsK h (U j) fun h'' => Wk t h2 (S j) h'') Q) t h') : LoopX C b Q ts h := by
  rw [setsK_eq] at h0
  refine loopi hT I S (fun i => setsL h (U i)) μ i0 n hn hI h0 fun i hi => ?_
  have := hstep i hi
  rw [setsK_eq] at this
  have e : (fun (t : List XV) (h2 : List It) => ∃ j, I j ∧ μ j < μ i ∧ t.length = n ∧ setsK h (U j) fun h'' => Wk t h2 (S j) h'') = fun t h2 => ∃ j, I j ∧ μ j < μ i ∧ t.length = n ∧ Wk t h2 (S j) (setsL h (U j)) := by
    funext t h2
    simp only [setsK_eq]
  rw [e] at this
  exact this
include hT in
/-- .. with items said anew at a round's end. -/
theorem loopl_h {b : Code} {Q : KQ} {ts : List XV} {h : List It} {ι : Type} (I : ι → Prop) (S : ι → List (Nat × XV)) (U : ι → List (Nat × It)) (μ : ι → Nat) (i0 : ι) (n : Nat) (hn : n = ts.length) (hI : I i0) (h0 : setsK h (U i0) fun h' => Wk ts h (S i0) h')
    (hstep : ∀ i, I i → setsK h (U i) fun h' => forceTs (frame n (S i)) fun t => codeX C b (roundQ (LabX fun t h2 => ∃ j, I j ∧ μ j < μ i ∧ t.length = n ∧ setsK h (U j) fun h'' => Wk t h2 (S j) h'') Q) t h') : LoopX C b Q ts h := by
  rw [setsK_eq] at h0
  refine loopl hT I S (fun i => setsL h (U i)) μ i0 n hn hI h0 fun i hi => ?_
  have := hstep i hi
  rw [setsK_eq] at this
  have e : (fun (t : List XV) (h2 : List It) => ∃ j, I j ∧ μ j < μ i ∧ t.length = n ∧ setsK h (U j) fun h'' => Wk t h2 (S j) h'') = fun t h2 => ∃ j, I j ∧ μ j < μ i ∧ t.length = n ∧ Wk t h2 (S j) (setsL h (U j)) := by
    funext t h2
    simp only [setsK_eq]
  rw [e] at this
  exact this
end
/-- What is known to turn nothing is a call. -/
theorem callx_of_callf {C : Cx} {f : FuncId} {args : List XV} {ts : List XV} {h : List It} {k : KE} (hc : CallF C f args ts h k) : CallX C f args ts h k := by
  unfold CallF at hc
  unfold CallX
  refine ⟨hc.1, fun w0 F E w vs us hr ha hp => (hc.2 w0 F E w vs us hr ha hp).mono ?_⟩
  rintro e w' ⟨u, x, ts', h', E', h1, h2, h3, h4, h5, _⟩
  exact ⟨u, x, ts', h', E', h1, h2, h3, h4, h5⟩
/-- A slice of the beginning of an own row, lent. -/
theorem sw_lent {w0 : Org} {F : Nat → Prop} {E : Env} {h : List It} {w : World} {it n z e : Nat} {xs : List (List XC)} {v : Value} (hp : Heap w0 F E h w) (hit : itemAt h it = .row e z xs) (hn : n ≤ xs.length) (hr : RelC E (.sw it 0 n z) v) :
    RelC (E.lent h w) (.rs n z (cell2 xs)) v := by
  have hx := itemAt_eq _ _ hit (by simp)
  obtain ⟨A, c, h1, h2, h3, h4⟩ := hp.rs_of hx fun b hb => (⟨it, _, hx, hb⟩ : ∃ (k : Nat) (x : It), h[k]? = some x ∧ Ow E k x b)
  obtain ⟨_, A', m', c', e1, e2, e3⟩ := hr
  rw [h1] at e1
  cases e1
  rw [e3]
  have hadd : ∀ ad : Addr, ad.add (0 * z) = ad := fun ad => by cases ad; simp [Addr.add]
  refine ⟨A, c, ?_, by omega, h3, fun i hi => h4 i (by omega)⟩
  show Value.slice (if c = 0 then A else A.map (·.add (0 * z))) (0 + n - 0) (c - 0) = _
  rw [show (fun ad : Addr => ad.add (0 * z)) = id from funext hadd, Option.map_id, Nat.zero_add, Nat.sub_zero, Nat.sub_zero]
  split <;> rfl
/-- A call whose answer is a row of its own, the beginning of an own row lent. -/
theorem callf_row_sw {C : Cx} {f : FuncId} {ts : List XV} {h : List It} {k : KE} {x' : XC} {e : TypeId} {z : Nat} {xs : List (List XC)} {it n zz ee : Nat} {ys : List (List XC)} (hf : Fn C.P f [.c x'] (RowR e z xs)) (hit : itemAt h it = .row ee zz ys) (hn : n ≤ ys.length) (hl : entC (.rs n zz (cell2 ys)) x') (hs : stXs [.c x'] = true)
    (hz : ∀ l ∈ xs, l.length = z) (hfl : ∀ l ∈ xs, flatL l = true) (hk : lenK h fun n => snocH h (.row e z xs) fun h' => k (.c (.ow n)) ts h') : CallF C f [.c (.sw it 0 n zz)] ts h k := by
  rw [lenK_eq, snocH_eq] at hk
  unfold CallF
  refine ⟨hf.ok, fun w0 F E w vs us hr hargs hp => ?_⟩
  have hargs2 : RelTs (E.lent h w) [.c x'] us := by
    match us, hargs with
    | [v], ⟨h1, _⟩ => exact ⟨entC_rel hl (sw_lent hp hit hn h1), trivial⟩
  refine (hf.run (E.lent h w).bs w us hp.lent_ok (stXs_rel (E := E.lent h w) (E' := ⟨(E.lent h w).bs, 0, fun _ => 0, fun _ => undef, fun _ _ => False⟩) rfl hs hargs2)).mono fun er w' ⟨u, x, h', E', he, hR, hx, hp'⟩ => ?_
  have hflat := flatLL hfl
  have key : ∃ ys, w'.ownsRow 0 e z u xs.length ys ∧ (∀ E2, RelL E2 xs.flatten ys) ∧ u.oneCell' = true ∧ ∀ b, u.ownBlock = some b → w.heap.size ≤ b ∧ b < w'.heap.size := by
    rcases hR with ⟨rfl, rfl⟩ | ⟨j, ys, rfl, hit, hent⟩
    · have hu : u = .slice none 0 0 := hx.1
      subst hu
      exact ⟨[], World.ownsRow_nil w' 0 e z, fun _ => trivial, rfl, fun b hb => by simp [Value.ownBlock] at hb⟩
    · obtain ⟨_, rfl, hone⟩ := hx
      have hi := itemAt_eq _ _ hit (by simp)
      obtain ⟨zs, hown, hrel, _, _⟩ := hp'.ok j _ hi
      rw [entLL_len hent] at hown
      refine ⟨zs, hown, fun E2 => flatL_rel hflat (entL_rel (entLL_flat hent) hrel), hone, fun b hb => ?_⟩
      have h1 := hp'.own j _ b hi hb
      rcases h1.2.2 with h2 | h2
      · exact ⟨h2, h1.1⟩
      · exact h2.elim
  obtain ⟨ys, hown, hrel, hone, hnew⟩ := key
  have hE := Env.push_le E 0 u
  have hp2 := hp.push (x := .row e z xs) (b := 0) (v := u) (S := fun _ => False) hp'.fr
    ⟨ys, by simpa [Env.push] using hown, hrel _, hz, fun x hx => flat_st (flatL_mem hflat x hx)⟩ (fun b hb => hnew b (by simpa [Ow, Env.push] using hb))
  refine ⟨u, _, ts, _, _, he, hk, ⟨?_, ?_, hone⟩, hr.mono hE, hp2, ⟨hp'.fr.size, fun b hb _ => hp'.fr.block b hb (fun x => x)⟩, After.push hp.n (fun c hc => (hnew c (by simpa [Ow, Env.push] using hc)).1)⟩
  · rw [← hp.n]; simp [Env.push]
  · simp [Env.push, hp.n]
end Go.Eng
