/- The engine, part N: loops and scopes by invariants; nothing of any program is proved here. -/
import Derived.Test.YtehbalkhboedeaaEngP2
import Derived.Deep.LoopGhost
import Derived.Sort.LoopGhostIn
import Derived.LoopN
import Derived.LoopNIn
import Derived.WideKeyArgs
import Derived.ProofKit
import Derived.OpenShut
import Derived.Deep.Slices
import Derived.Laws.CopyRow
import Derived.OrdersHeld
namespace Go.Eng
open Go Go.RowKit
set_option linter.unusedSimpArgs false
set_option linter.unusedVariables false

/-! ### a state that says less -/
def wfCaps (n : Nat) : Nat → (Nat → XC) → Bool
  | 0, _ => true
  | m + 1, c => (match c m with
    | .p it _ => (match Nat.blt it n with | true => wfCaps n m c | false => false)
    | .ow _ | .q _ _ _ _ | .sw _ _ _ _ | .sp _ _ _ _ | .mp _ | .fn _ _ _ => false
    | _ => wfCaps n m c)
def wfC (n : Nat) : XC → Bool
  | .p it _ | .ow it | .q it _ _ _ | .sw it _ _ _ | .sp it _ _ _ | .mp it => Nat.blt it n
  | .fn _ m c => wfCaps n m c
  | _ => true
def wfL (n : Nat) : List XC → Bool
  | [] => true
  | x :: l => (match wfC n x with | true => wfL n l | false => false)
def wfV (n : Nat) : XV → Bool
  | .c x => wfC n x
  | .a l => wfL n l
  | .t [] => true
  | .t _ => false
  | .un => true
def wfS (n : Nat) : List (Nat × XV) → Bool
  | [] => true
  | (_, x) :: l => (match wfV n x with | true => wfS n l | false => false)
def wfVs (n : Nat) : List XV → Bool
  | [] => true
  | x :: l => (match wfV n x with | true => wfVs n l | false => false)
def entTs : List XV → List XV → Prop
  | [], [] => True
  | x :: l, y :: m => (match y with | .un => True | y => x = y) ∧ entTs l m
  | _, _ => False
def wfIt (n : Nat) : It → Bool
  | .cells _ cs => wfL n cs
  | .held _ xs => wfVs n xs
  | .prow _ _ _ (some (_, cs)) => wfL n cs
  | _ => true
def wfH (n : Nat) : List It → Bool
  | [] => true
  | x :: l => (match wfIt n x with | true => wfH n l | false => false)

def SlotsOk (t : List XV) : List (Nat × XV) → Prop
  | [] => True
  | (i, x) :: l => entV (get t i) x ∧ SlotsOk t l
/-- An element that says less. -/
def AbsL.le (a b : AbsL) : Prop := ∀ bs vs S w, a.is bs vs S w → b.is bs vs S w
def leA : List AbsL → List AbsL → Prop
  | [], [] => True
  | a :: l, b :: m => AbsL.le a b ∧ leA l m
  | _, _ => False
def opLe : Option (Nat × List XC) → Option (Nat × List XC) → Prop
  | none, none => True
  | some (i, cs), some (j, ds) => i = j ∧ entL cs ds
  | _, _ => False
theorem leA_len : ∀ {l m : List AbsL}, leA l m → l.length = m.length
  | [], [], _ => rfl
  | _ :: _, _ :: _, h => by simp [leA_len h.2]
  | [], _ :: _, h => h.elim
  | _ :: _, [], h => h.elim
theorem leA_refl : ∀ l : List AbsL, leA l l
  | [] => trivial
  | _ :: l => ⟨fun _ _ _ _ h => h, leA_refl l⟩
theorem leA_get : ∀ {l m : List AbsL}, leA l m → ∀ {i : Nat} {b : AbsL}, m[i]? = some b → ∃ a, l[i]? = some a ∧ AbsL.le a b
  | a :: _, b :: _, h, 0, c, hc => by simp at hc; subst hc; exact ⟨a, rfl, h.1⟩
  | _ :: l, _ :: m, h, i + 1, c, hc => by simpa using leA_get h.2 (i := i) (by simpa using hc)
  | [], [], _, _, _, hc => by simp at hc
  | [], _ :: _, h, _, _, _ => h.elim
  | _ :: _, [], h, _, _, _ => h.elim
theorem leA_append : ∀ {l l' m m' : List AbsL}, leA l m → leA l' m' → leA (l ++ l') (m ++ m')
  | [], _, [], _, _, h => h
  | _ :: _, _, _ :: _, _, h, h' => ⟨h.1, leA_append h.2 h'⟩
  | [], _, _ :: _, _, h, _ => h.elim
  | _ :: _, _, [], _, h, _ => h.elim
theorem leA_set : ∀ {l m : List AbsL} (i : Nat) {a b : AbsL}, leA l m → AbsL.le a b → leA (l.set i a) (m.set i b)
  | [], [], _, _, _, _, _ => trivial
  | _ :: _, _ :: _, 0, _, _, h, h' => ⟨h', h.2⟩
  | _ :: l, _ :: m, i + 1, _, _, h, h' => ⟨h.1, leA_set i h.2 h'⟩
  | [], _ :: _, _, _, _, h, _ => h.elim
  | _ :: _, [], _, _, _, h, _ => h.elim
theorem leA_of_eq {l m : List AbsL} (h : l = m) : leA l m := h ▸ leA_refl l

def ItLe (a : It) : It → Prop
  | .dead => True
  | .cells ty cs => (match a with | .cells ty' cs' => ty' = ty ∧ entL cs' cs | _ => False)
  | .row e z xs => (match a with | .row e' z' ys => (e' = e ∧ z' = z) ∧ entLL ys xs | _ => False)
  | .obj Φ => a = .obj Φ
  | .abs A' => (match a with | .abs A => ∀ bs v S w, A.is bs v S w → A'.is bs v S w | _ => False)
  | .held vs ys => (match a with | .held us xs => us = vs ∧ entTs xs ys | _ => False)
  | .prow e z as o => (match a with | .prow e' z' bs o' => (e' = e ∧ z' = z) ∧ leA bs as ∧ opLe o' o | _ => False)
def PreOk : List It → List It → Prop
  | _, [] => True
  | a :: l, b :: m => ItLe a b ∧ PreOk l m
  | [], _ :: _ => False

/-- The slots and blocks that are named hold what is said. -/
def Wk (t : List XV) (h : List It) (s : List (Nat × XV)) (h' : List It) : Prop := SlotsOk t s ∧ PreOk h h' ∧ (wfS h'.length s && wfH h'.length h') = true

def look : List (Nat × XV) → Nat → XV
  | [], _ => .un
  | (j, x) :: l, i => (match Nat.beq j i with | true => x | false => look l i)
def frameFrom (s : List (Nat × XV)) : Nat → Nat → List XV
  | _, 0 => []
  | i, n + 1 => look s i :: frameFrom s (i + 1) n
/-- A frame of so many slots, of which these are known. -/
def frame (n : Nat) (s : List (Nat × XV)) : List XV := frameFrom s 0 n

theorem blt_lt {a b : Nat} (h : Nat.blt a b = true) : a < b := by
  have : a + 1 ≤ b := by simpa [Nat.blt, Nat.ble_eq] using h
  omega

section
variable {E : Env} {n : Nat}

def Env.cut (E : Env) (n : Nat) : Env := { E with n := n }

theorem cut_st {x : XC} {u : Value} (hs : St x) (hr : RelC E x u) : RelC (E.cut n) x u := RelC.stable (E := E) (E' := E.cut n) (fun _ h => ⟨h, rfl⟩) x u hs hr

theorem wfCaps_rel (hn : n ≤ E.n) : ∀ (m : Nat) {c : Nat → XC}, wfCaps n m c = true → ∀ j, j < m → ∀ u, RelC E (c j) u → RelC (E.cut n) (c j) u
  | m + 1, c, h, j, hj, u, hu => by
    unfold wfCaps at h
    by_cases e : j = m
    · subst e
      cases hc : c j <;> rw [hc] at h hu <;> simp only at h
      case p it off =>
        split at h
        · rename_i h1; exact ⟨blt_lt h1, hu.2⟩
        · cases h
      case ep => exact cut_st (show St (.ep _ _) from trivial) hu
      case rs => exact cut_st (show St (.rs _ _ _) from trivial) hu
      case ts => exact cut_st (show St (.ts _ _ _) from trivial) hu
      all_goals first | exact hu | cases h
    · refine wfCaps_rel hn m ?_ j (by omega) u hu
      cases hc : c m <;> rw [hc] at h <;> simp only at h
      case p it off => split at h; exact h; cases h
      all_goals first | exact h | cases h

theorem wfC_rel (hn : n ≤ E.n) {x : XC} {u : Value} (h : wfC n x = true) (hr : RelC E x u) : RelC (E.cut n) x u := by
  cases x with
  | p it off => exact ⟨blt_lt h, hr.2⟩
  | ow it => exact ⟨blt_lt h, hr.2⟩
  | q it => exact ⟨blt_lt h, hr.2⟩
  | sw it => exact ⟨blt_lt h, hr.2⟩
  | sp it => exact ⟨blt_lt h, hr.2⟩
  | mp it => exact ⟨blt_lt h, hr.2⟩
  | fn f m c =>
    obtain ⟨vs, rfl, hm, hc⟩ := hr
    refine ⟨vs, rfl, hm, fun j hj => ?_⟩
    obtain ⟨v, hv, hrel⟩ := hc j hj
    exact ⟨v, hv, wfCaps_rel hn m h j hj v hrel⟩
  | ep => exact cut_st (show St (.ep _ _) from trivial) hr
  | rs => exact cut_st (show St (.rs _ _ _) from trivial) hr
  | ts => exact cut_st (show St (.ts _ _ _) from trivial) hr
  | un => exact hr
  | il => exact hr
  | i => exact hr
  | bt => exact hr
  | bf => exact hr
  | b => exact hr
  | v => exact hr

theorem wfL_rel (hn : n ≤ E.n) : ∀ {l : List XC} {us : List Value}, wfL n l = true → RelL E l us → RelL (E.cut n) l us
  | [], [], _, _ => trivial
  | x :: l, u :: us, h, hr => by
    unfold wfL at h
    split at h
    · rename_i h1; exact ⟨wfC_rel hn h1 hr.1, wfL_rel hn h hr.2⟩
    · cases h
  | [], _ :: _, _, h => h.elim
  | _ :: _, [], _, h => h.elim

theorem wfV_rel (hn : n ≤ E.n) {x : XV} {u : Value} (h : wfV n x = true) (hr : RelV E x u) : RelV (E.cut n) x u := by
  cases x with
  | un => trivial
  | c x => exact wfC_rel hn h hr
  | a l => obtain ⟨vs, rfl, hl⟩ := hr; exact ⟨vs, rfl, wfL_rel hn h hl⟩
  | t l =>
    cases l with
    | nil => obtain ⟨vs, rfl, hl⟩ := hr; exact ⟨vs, rfl, by cases hv : vs.toList with | nil => trivial | cons a l => rw [hv] at hl; exact hl.elim⟩
    | cons a l => cases h

theorem look_rel (hn : n ≤ E.n) {t : List XV} {vs : List Value} (hr : RelTs E t vs) : ∀ {s : List (Nat × XV)}, SlotsOk t s → wfS n s = true → ∀ i, RelV (E.cut n) (look s i) (vs.getD i undef)
  | [], _, _, _ => trivial
  | (j, x) :: s, hs, hw, i => by
    unfold wfS at hw
    split at hw
    · rename_i h1
      unfold look
      split
      · rename_i e
        have e := Nat.eq_of_beq_eq_true e
        subst e
        have := hr.get j
        exact wfV_rel hn h1 (entV_rel hs.1 this)
      · exact look_rel hn hr hs.2 hw i
    · cases hw

theorem frame_rel {E : Env} {s : List (Nat × XV)} {vs : List Value} (h : ∀ i, RelV E (look s i) (vs.getD i undef)) : ∀ (n i : Nat), i + n = vs.length → RelTs E (frameFrom s i n) (vs.drop i)
  | 0, i, e => by rw [List.drop_of_length_le (by omega)]; trivial
  | n + 1, i, e => by
    have hi : i < vs.length := by omega
    rw [List.drop_eq_getElem_cons hi]
    have := h i
    rw [List.getD_eq_getElem?_getD, List.getElem?_eq_getElem hi] at this
    exact ⟨this, frame_rel h n (i + 1) (by omega)⟩

theorem wfH_get : ∀ {h : List It} {k : Nat} {x : It}, wfH n h = true → h[k]? = some x → wfIt n x = true
  | y :: h, k, x, hw, hk => by
    unfold wfH at hw
    split at hw
    · rename_i h1
      cases k with
      | zero => simp at hk; subst hk; exact h1
      | succ k => exact wfH_get hw (by simpa using hk)
    · cases hw
  | [], _, _, _, hk => by simp at hk
theorem wfH_at {h : List It} {k : Nat} {ty : TypeId} {cs : List XC} (hw : wfH n h = true) (hk : h[k]? = some (.cells ty cs)) : wfL n cs = true := wfH_get hw hk
theorem wfH_held {h : List It} {k : Nat} {us : List Value} {xs : List XV} (hw : wfH n h = true) (hk : h[k]? = some (.held us xs)) : wfVs n xs = true := wfH_get hw hk
theorem wfVs_rel (hn : n ≤ E.n) : ∀ {l : List XV} {us : List Value}, wfVs n l = true → RelTs E l us → RelTs (E.cut n) l us
  | [], [], _, _ => trivial
  | x :: l, u :: us, hw, h => by
    unfold wfVs at hw
    split at hw
    · rename_i h1
      exact ⟨wfV_rel hn h1 h.1, wfVs_rel hn hw h.2⟩
    · cases hw
  | [], _ :: _, _, h => h.elim
  | _ :: _, [], _, h => h.elim
theorem entTs_rel : ∀ {l m : List XV} {us : List Value}, entTs l m → RelTs E l us → RelTs E m us
  | [], [], _, _, h => h
  | x :: l, y :: m, u :: us, he, h => by
    refine ⟨?_, entTs_rel he.2 h.2⟩
    have h1 := he.1
    cases y with
    | un => trivial
    | c => have h1 : x = _ := h1; rw [← h1]; exact h.1
    | a => have h1 : x = _ := h1; rw [← h1]; exact h.1
    | t => have h1 : x = _ := h1; rw [← h1]; exact h.1
  | _ :: _, _ :: _, [], _, h => h.elim
  | [], _ :: _, _, he, _ => he.elim
  | _ :: _, [], _, he, _ => he.elim

theorem PreOk.at_ : ∀ {h h' : List It}, PreOk h h' → h'.length ≤ h.length ∧ ∀ (k : Nat) (y : It), h'[k]? = some y → ∃ x, h[k]? = some x ∧ ItLe x y
  | _, [], _ => ⟨Nat.zero_le _, fun k y hy => by simp at hy⟩
  | a :: l, b :: m, hp => by
    obtain ⟨h1, h2⟩ := PreOk.at_ hp.2
    refine ⟨by simp; omega, fun k y hy => ?_⟩
    cases k with
    | zero => simp at hy; subst hy; exact ⟨a, rfl, hp.1⟩
    | succ k => simpa using h2 k y (by simpa using hy)
  | [], _ :: _, hp => hp.elim

theorem ItLe.ow {x y : It} (h : ItLe x y) {k b : Nat} (hy : Ow (E.cut n) k y b) : Ow E k x b := by
  cases y with
  | dead => exact hy.elim
  | cells ty cs =>
    cases x with
    | cells => exact hy
    | _ => exact h.elim
  | row e z xs =>
    cases x with
    | row => exact hy
    | _ => exact h.elim
  | obj Φ =>
    have h : x = .obj Φ := h
    subst h; exact hy
  | abs A' =>
    cases x with
    | abs => exact hy
    | _ => exact h.elim
  | held us ys => exact hy.elim
  | prow e z as o =>
    cases x with
    | prow => exact hy
    | _ => exact h.elim
theorem ItLe.ok (hn : n ≤ E.n) {x y : It} (h : ItLe x y) {w : World} {k : Nat} (hwf : wfIt n y = true) (hi : ItOk E w k x) : ItOk (E.cut n) w k y := by
  have hcells : ∀ ty cs, y = .cells ty cs → wfL n cs = true := fun ty cs e => by subst e; exact hwf
  have hheld : ∀ us xs, y = .held us xs → wfVs n xs = true := fun us xs e => by subst e; exact hwf
  cases y with
  | prow e z as o =>
    cases x with
    | prow e' z' bs o' =>
      obtain ⟨⟨rfl, rfl⟩, hA, hO⟩ := h
      obtain ⟨ys, Ss, h1⟩ := hi
      have hlen := leA_len hA
      refine ⟨ys, Ss, by rw [← hlen]; exact h1.row, fun i b hb hno => ?_, fun i cs e => ?_, h1.sep, h1.own, h1.blk⟩
      · obtain ⟨a, ha, hle⟩ := leA_get hA hb
        refine hle _ _ _ _ (h1.el i a ha fun cs e => ?_)
        subst e
        cases o with
        | none => exact hO.elim
        | some p => obtain ⟨rfl, _⟩ := hO; exact hno p.2 rfl
      · subst e
        cases o' with
        | none => exact hO.elim
        | some p =>
          obtain ⟨e1, e2⟩ := hO
          obtain ⟨g1, g2, g3⟩ := h1.op p.1 p.2 rfl
          rw [e1] at g1 g3
          exact ⟨by rw [← hlen]; exact g1, by rw [← entL_len e2]; exact g2, wfL_rel hn hwf (entL_rel e2 g3)⟩
    | _ => exact h.elim
  | dead => trivial
  | cells ty cs =>
    cases x with
    | cells ty' cs' =>
      obtain ⟨rfl, he⟩ := h
      obtain ⟨vs, hv, hrel⟩ := hi
      exact ⟨vs, hv, wfL_rel hn (hcells _ _ rfl) (entL_rel he hrel)⟩
    | _ => exact h.elim
  | row e z xs =>
    cases x with
    | row e' z' ys =>
      obtain ⟨⟨rfl, rfl⟩, he⟩ := h
      obtain ⟨vs, ho, hrel, hl, hst⟩ := hi
      have hst' := entL_st (entLL_flat he) hst
      rw [entLL_len he] at ho
      exact ⟨vs, ho, RelL.ofSt (E := E) (E' := E.cut n) rfl hst' (entL_rel (entLL_flat he) hrel), entLL_lens he hl, hst'⟩
    | _ => exact h.elim
  | obj Φ =>
    have h : x = .obj Φ := h
    subst h; exact hi
  | abs A' =>
    cases x with
    | abs A => exact h _ _ _ _ hi
    | _ => exact h.elim
  | held us ys =>
    cases x with
    | held us' xs =>
      obtain ⟨rfl, h⟩ := h
      exact wfVs_rel hn (hheld _ _ rfl) (entTs_rel h hi)
    | _ => exact h.elim

theorem Wk.cfg {w0 : Org} {F : Nat → Prop} {t : List XV} {h : List It} {s : List (Nat × XV)} {h' : List It} {a : Act} {w : World} (hk : Wk t h s h') (hc : Cfg w0 F t h a w) : Cfg w0 F (frame t.length s) h' a w := by
  obtain ⟨hs, hp, hw⟩ := hk
  rw [Bool.and_eq_true] at hw
  obtain ⟨w1, F1, hsub, hd, E, hr, hH⟩ := hc
  obtain ⟨hle, hat⟩ := hp.at_
  have hn : h'.length ≤ E.n := by rw [hH.n]; exact hle
  refine ⟨w1, F1, hsub, hd, E.cut h'.length, ?_, ?_⟩
  · have := frame_rel (s := s) (look_rel hn hr hs hw.1) t.length 0 (by rw [Nat.zero_add]; exact hr.len)
    simpa [frame] using this
  · have hb : ∀ (k : Nat) (y : It) (b : Nat), h'[k]? = some y → Ow (E.cut h'.length) k y b → ∃ x, h[k]? = some x ∧ Ow E k x b := by
      intro k y b hy hby
      obtain ⟨x, hx, hxy⟩ := hat k y hy
      exact ⟨x, hx, hxy.ow hby⟩
    refine ⟨hH.bs, hH.le, hH.nb, rfl, ?_, ?_, ?_, hH.fr⟩
    · intro k y hy
      obtain ⟨x, hx, hxy⟩ := hat k y hy
      exact hxy.ok hn (wfH_get hw.2 hy) (hH.ok k x hx)
    · intro k y b hy hby
      obtain ⟨x, hx, hbx⟩ := hb k y b hy hby
      exact hH.own k x b hx hbx
    · intro j k y y' b hy hy' hby hby'
      obtain ⟨x, hx, hbx⟩ := hb j y b hy hby
      obtain ⟨x', hx', hbx'⟩ := hb k y' b hy' hby'
      exact hH.sep j k x x' b hx hx' hbx hbx'
end

/-! ### loops -/
def roundQ (again : KS) (Q : KQ) : KQ
  | .normal, t, h => again t h
  | .ret, t, h => Q .ret t h
  | .exit n, t, h => Q (.exit n) t h
  | .goto n, t, h => Q (.goto n) t h

theorem frame_len (s : List (Nat × XV)) : ∀ n i, (frameFrom s i n).length = n
  | 0, _ => rfl
  | n + 1, i => by simp [frameFrom, frame_len s n (i + 1)]

section
variable {C : Cx} (hT : TabOk C.P C.T)

include hT in
theorem loopx {b : Code} {Q : KQ} {ts : List XV} {h : List It} {ι : Type} (S : ι → List (Nat × XV)) (H : ι → List It) (μ : ι → Nat) (i0 : ι) (n : Nat) (hn : n = ts.length) (h0 : Wk ts h (S i0) (H i0))
    (hstep : ∀ i, forceTs (frame n (S i)) fun t => codeX C b (roundQ (fun t h => ∃ j, μ j < μ i ∧ t.length = n ∧ Wk t h (S j) (H j)) Q) t (H i)) : LoopX C b Q ts h := by
  unfold LoopX
  intro w0 F Q' a w hQ hc
  subst hn
  refine wpIn_loop_ghost (fun m a w => ∃ i, μ i = m ∧ Cfg w0 F (frame ts.length (S i)) (H i) a w) (μ i0) ⟨i0, rfl, h0.cfg hc⟩ ?_
  rintro m a w ⟨i, rfl, hc⟩
  have h1 := hstep i
  rw [forceTs_eq] at h1
  refine codeX_sound hT b h1 hc ?_
  intro e t h a w hq hc
  cases e with
  | normal =>
    obtain ⟨j, hlt, hlen, hk⟩ := hq
    exact ⟨μ j, hlt, j, rfl, by rw [← hlen]; exact hk.cfg hc⟩
  | ret => exact hQ .ret _ _ _ _ hq hc
  | exit n => exact hQ (.exit n) _ _ _ _ hq hc
  | goto n => exact hQ (.goto n) _ _ _ _ hq hc

/-! ### scopes -/
def plainQ (Q : KQ) : KQ
  | .normal, t, h => Q .normal t h
  | .ret, t, h => Q .ret t h
  | .exit n, t, h => Q (.exit n) t h
  | .goto _, _, _ => False
def jumpQ (l : Nat) (J : KS) (Q : KQ) : KQ
  | .normal, t, h => Q .normal t h
  | .ret, t, h => Q .ret t h
  | .exit n, t, h => Q (.exit n) t h
  | .goto l', t, h => when (Nat.beq l' l) (J t h)

include hT in
theorem scopex_plain {b : Code} {Q : KQ} {ts : List XV} {h : List It} (hh : codeX C b (plainQ Q) ts h) : ScopeX C b Q ts h := by
  unfold ScopeX
  intro w0 F Q' a w hQ hc
  refine wpIn_scope_straight (codeX_sound hT b hh hc ?_)
  intro e t h a w hq hc
  cases e with
  | normal => exact hQ .normal _ _ _ _ hq hc
  | ret => exact hQ .ret _ _ _ _ hq hc
  | exit n => exact hQ (.exit n) _ _ _ _ hq hc
  | goto n => exact hq.elim

include hT in
theorem scopex {b rest : Code} {Q : KQ} {ts : List XV} {h : List It} {ι : Type} (l : Nat) (hf : findLabel b l = some rest) (S : ι → List (Nat × XV)) (H : ι → List It) (μ : ι → Nat) (n : Nat) (hn : n = ts.length)
    (first : codeX C b (jumpQ l (fun t h => ∃ i, t.length = n ∧ Wk t h (S i) (H i)) Q) ts h)
    (pass : ∀ i, forceTs (frame n (S i)) fun t => codeX C rest (jumpQ l (fun t h => ∃ j, μ j < μ i ∧ t.length = n ∧ Wk t h (S j) (H j)) Q) t (H i)) : ScopeX C b Q ts h := by
  unfold ScopeX
  intro w0 F Q' a w hQ hc
  subst hn
  let I : Nat → Act → World → Prop := fun m a w => ∃ i, μ i = m ∧ Cfg w0 F (frame ts.length (S i)) (H i) a w
  refine wpIn_scope_jumps l (fun a w => ∃ m, I m a w) (fun a w => leastOf (fun m => I m a w)) hf ?_ ?_
  · refine codeX_sound hT b first hc ?_
    intro e t h a w hq hc
    cases e with
    | normal => exact hQ .normal _ _ _ _ hq hc
    | ret => exact hQ .ret _ _ _ _ hq hc
    | exit n => exact hQ (.exit n) _ _ _ _ hq hc
    | goto n =>
      obtain ⟨he, i, hlen, hk⟩ := when_iff hq
      exact ⟨Nat.eq_of_beq_eq_true he, μ i, i, rfl, by rw [← hlen]; exact hk.cfg hc⟩
  · intro a w hI
    obtain ⟨i, hi, hc⟩ := (leastOf_spec hI).1
    have h1 := pass i
    rw [forceTs_eq] at h1
    refine codeX_sound hT rest h1 hc ?_
    intro e t h a' w' hq hc
    cases e with
    | normal => exact hQ .normal _ _ _ _ hq hc
    | ret => exact hQ .ret _ _ _ _ hq hc
    | exit n => exact hQ (.exit n) _ _ _ _ hq hc
    | goto n =>
      obtain ⟨he, j, hlt, hlen, hk⟩ := when_iff hq
      have hI' : I (μ j) a' w' := ⟨j, rfl, by rw [← hlen]; exact hk.cfg hc⟩
      refine ⟨Nat.eq_of_beq_eq_true he, ⟨μ j, hI'⟩, ?_⟩
      have := (leastOf_spec (p := fun m => I m a' w') ⟨_, hI'⟩).2 _ hI'
      have hi' : μ i = leastOf (fun m => I m a w) := hi
      show leastOf (fun m => I m a' w') < leastOf (fun m => I m a w)
      omega
end
end Go.Eng

/- The engine, part O: answers that say less; nothing of any program is proved here. -/
namespace Go.Eng
open Go Go.RowKit
set_option linter.unusedSimpArgs false
set_option linter.unusedVariables false

/-- The answer says at least this. -/
def Tells (v : XV) : XV → List It → Prop := fun x _ => entV x v

section
variable {C : Cx} {f : FuncId} {args : List XV} {ts : List XV} {h : List It} {k : KE}
/-- A call by contract: the caller knows what the contract tells. -/
theorem callx_tells {v : XV} (hf : Fn C.P f args (Tells v)) (hs : stXs args = true) (hv : stX v) (hk : k v ts h) : CallX C f args ts h k := by
  unfold CallX
  refine ⟨hf.ok, fun w0 F E w vs us hr hargs hp => ?_⟩
  refine (hf.run E.bs w us hp.bs (stXs_rel (E := E) (E' := ⟨E.bs, 0, fun _ => 0, fun _ => undef, fun _ _ => False⟩) rfl hs hargs)).mono fun e w' ⟨u, x, h', E', he, hR, hx, hp'⟩ => ?_
  obtain ⟨hp2, hle⟩ := hp.behind hp'
  exact ⟨u, v, ts, h, { E with bs := E'.bs }, he, hk, RelV.ofSt (E := E') (E' := { E with bs := E'.bs }) (fun b hb => ⟨hb, rfl⟩) hv (entV_rel hR hx), hr.mono hle, hp2⟩
end

/-- .. said in other words. -/
theorem callx_as {C : Cx} {f : FuncId} {args : List XV} {ts : List XV} {h : List It} {k : KE} {v : XV} (v' : XV) (hf : Fn C.P f args (Tells v)) (hs : stXs args = true) (he : entV v v') (hv : stX v') (hk : k v' ts h) : CallX C f args ts h k := by
  unfold CallX
  refine ⟨hf.ok, fun w0 F E w vs us hr hargs hp => ?_⟩
  refine (hf.run E.bs w us hp.bs (stXs_rel (E := E) (E' := ⟨E.bs, 0, fun _ => 0, fun _ => undef, fun _ _ => False⟩) rfl hs hargs)).mono fun e w' ⟨u, x, h', E', he', hR, hx, hp'⟩ => ?_
  obtain ⟨hp2, hle⟩ := hp.behind hp'
  exact ⟨u, v', ts, h, { E with bs := E'.bs }, he', hk, RelV.ofSt (E := E') (E' := { E with bs := E'.bs }) (fun b hb => ⟨hb, rfl⟩) hv (entV_rel he (entV_rel hR hx)), hr.mono hle, hp2⟩

/-- What a row needs of a contract of numbers and bools. -/
theorem Fn.row {P : Program} {f : FuncId} {xs : List XV} {v : XV} (hf : Fn P f xs (Tells v)) (w : World) {us : List Value} {u : Value} (hr : RelTs ⟨⟨w, fun _ => False⟩, 0, fun _ => 0, fun _ => undef, fun _ _ => False⟩ xs us)
    (hv : ∀ E x, RelV E v x → x = u) : Calls P f us.toArray w fun e w' => e = .returned u ∧ Below w.heap.size w w' := by
  refine (hf.run ⟨w, fun _ => False⟩ w us (fun _ h => h.elim) hr).mono fun e w' ⟨u', x, h', E', he, hR, hx, hp⟩ => ?_
  have := hv E' u' (entV_rel hR hx)
  subst this
  exact ⟨he, hp.fr.below⟩
end Go.Eng

/- The engine, part P: loops walked round by round, and the last step of a row; nothing of any program is proved here. -/
namespace Go.Eng
open Go Go.RowKit Go.ChangeShapes Go.WideShapes
set_option linter.unusedSimpArgs false
set_option linter.unusedVariables false

/-! ### loops, round by round -/
def roundsX (C : Cx) (b : Code) (Q : KQ) : Nat → KS
  | 0, _, _ => False
  | n + 1, ts, h => codeX C b (roundQ (roundsX C b Q n) Q) ts h

section
variable {C : Cx} (hT : TabOk C.P C.T)
include hT in
theorem roundsX_sound {w0 : Org} {F : Nat → Prop} {b : Code} {Q : KQ} {Q' : Exit → Act → World → Prop} (hQ : QOk w0 F Q Q') : ∀ (n : Nat) {ts : List XV} {h : List It} {a : Act} {w : World}, roundsX C b Q n ts h → Cfg w0 F ts h a w → Code.roundsIn (fen C.rd) 0 C.P b Q' n a w
  | 0, _, _, _, _, hh, _ => hh
  | n + 1, ts, h, a, w, hh, hc => by
    refine codeX_sound hT b hh hc ?_
    intro e t h a w hq hc
    cases e with
    | normal => exact roundsX_sound hQ n hq hc
    | ret => exact hQ .ret _ _ _ _ hq hc
    | exit n => exact hQ (.exit n) _ _ _ _ hq hc
    | goto n => exact hQ (.goto n) _ _ _ _ hq hc

include hT in
/-- A loop of n rounds at most, each walked. -/
theorem loopx_rounds {b : Code} {Q : KQ} {ts : List XV} {h : List It} (n : Nat) (hh : roundsX C b Q n ts h) : LoopX C b Q ts h := by
  unfold LoopX
  intro w0 F Q' a w hQ hc
  exact wpIn_loop_rounds n (roundsX_sound hT hQ n hh hc)

end

/-! ### a scope with a jump, time by time -/
def againX (C : Cx) (rest : Code) (l : Nat) (Q : KQ) : Nat → KS
  | 0, _, _ => False
  | n + 1, ts, h => codeX C rest (jumpQ l (againX C rest l Q n) Q) ts h

section
variable {C : Cx} (hT : TabOk C.P C.T)
include hT in
/-- A scope whose label is jumped to n times at most, each walked. -/
theorem scopex_rounds {b rest : Code} {Q : KQ} {ts : List XV} {h : List It} (l n : Nat) (hf : findLabel b l = some rest) (hh : codeX C b (jumpQ l (againX C rest l Q n) Q) ts h) : ScopeX C b Q ts h := by
  unfold ScopeX
  intro w0 F Q' a w hQ hc
  let I : Nat → Act → World → Prop := fun m a w => ∃ ts h, againX C rest l Q m ts h ∧ Cfg w0 F ts h a w
  refine wpIn_scope_jumps l (fun a w => ∃ m, I m a w) (fun a w => leastOf (fun m => I m a w)) hf ?_ ?_
  · refine codeX_sound hT b hh hc ?_
    intro e t h a w hq hc
    cases e with
    | normal => exact hQ .normal _ _ _ _ hq hc
    | ret => exact hQ .ret _ _ _ _ hq hc
    | exit n => exact hQ (.exit n) _ _ _ _ hq hc
    | goto n' =>
      obtain ⟨he, hk⟩ := when_iff hq
      exact ⟨Nat.eq_of_beq_eq_true he, n, t, h, hk, hc⟩
  · intro a w hI
    have hI0 := (leastOf_spec hI).1
    generalize hm : leastOf (fun m => I m a w) = m at hI0
    obtain ⟨ts, h, hk, hc⟩ := hI0
    cases m with
    | zero => exact hk.elim
    | succ m =>
      refine codeX_sound hT rest hk hc ?_
      intro e t h a' w' hq hc
      cases e with
      | normal => exact hQ .normal _ _ _ _ hq hc
      | ret => exact hQ .ret _ _ _ _ hq hc
      | exit n => exact hQ (.exit n) _ _ _ _ hq hc
      | goto n' =>
        obtain ⟨he, hk⟩ := when_iff hq
        have hI' : I m a' w' := ⟨t, h, hk, hc⟩
        refine ⟨Nat.eq_of_beq_eq_true he, ⟨m, hI'⟩, ?_⟩
        exact Nat.lt_succ_of_le ((leastOf_spec (p := fun m => I m a' w') ⟨_, hI'⟩).2 _ hI')
end

/-! ### the last step of a row -/
section
variable {H : Type} {enc : TypeId × Value → H} {P : Program}
theorem trodAll_stays (hl : laidOutB P = true) {W W' : World} (hb : Below W.heap.size W W') {sp : Nat → Bool} :
    ∀ {ts : List TypeId} {vs : List Value} {ds : List (DataW H)} {ps : List MemPlace}, (ts.all fun t => P.readableRec t && decide (t < P.types.size)) = true →
      DataW.TrodAll enc P W 0 (fun _ => true) true ts vs ds ps → (∀ p ∈ ps, p.block < W.heap.size) → (∀ p ∈ ps, sp p.block = true) → DataW.TrodAll enc P W' 0 sp true ts vs ds ps
  | [], vs, ds, ps, _, h, _, _ => by obtain ⟨rfl, rfl, rfl⟩ := trodAll_nil h; exact trodAll_mk0
  | t :: ts, vs, ds, ps, ht, h, hlt, hsp => by
    obtain ⟨v, vs', d, ds', p, p', rfl, rfl, rfl, h0, h1⟩ := trodAll_cons h
    simp only [List.all_cons, Bool.and_eq_true, decide_eq_true_eq] at ht
    exact Go.trodAll_cons_mk (WideElems.Trod_stays hl ht.1.1 ht.1.2 h0 (fun x hx => hb.same (hlt x (by simp [hx]))) (fun x hx => hsp x (by simp [hx])))
      (trodAll_stays hl hb ht.2 h1 (fun x hx => hlt x (by simp [hx])) (fun x hx => hsp x (by simp [hx])))

theorem post_true {f : Func} {s : ChangeSpec} {apart fresh handsOn again : Bool} {W W' : World} {args : Array Value} {ds gs : List (DataW H)} {before : List MemPlace} {tb : TypeId}
    (hl : laidOutB P = true) (hps : (f.params.toList.all fun t => P.readableRec t && decide (t < P.types.size)) = true) (htb : f.resultTypes = #[tb]) (hub : P.underlying tb = some .bool)
    (hvars : s.vars = [])
    (hW : DataW.Whole enc P f.params.toList s.vars apart W args.toList ds gs before)
    (hres : (s.fn H (ds ++ gs)).results = [.lit (.bool true)]) (hargs : (s.fn H (ds ++ gs)).args = ds) (hvs : (s.fn H (ds ++ gs)).vars = [])
    (hb : Below W.heap.size W W') : s.post enc P f apart fresh handsOn again W args (.bool true) W' := by
  have hlt : ∀ p ∈ before, p.block < W.heap.size := fun p hp => hW.lt p hp
  have hold : ∀ p ∈ before, (fun b => decide (b < W.heap.size)) p.block = true := fun p hp => by simpa using hlt p hp
  have hW0 := hW
  obtain ⟨p, q, hA, hV, hpq, hz, hn⟩ := hW0
  have hq : gs = [] ∧ q = [] := by rw [hvars] at hV; exact trodVars_none hV
  obtain ⟨rfl, rfl⟩ := hq
  obtain rfl : before = p := by simpa using hpq
  have harg : ∀ sp : Nat → Bool, (∀ x ∈ before, sp x.block = true) → DataW.TrodAll enc P W' 0 sp true f.params.toList args.toList (s.fn H (ds ++ [])).args before := fun sp hsp => by
    rw [hargs]; exact trodAll_stays hl hb hps hA hlt hsp
  have hresT : ∀ (b : Nat) (sp : Nat → Bool) (hd : Bool), DataW.TrodAll enc P W' b sp hd f.resultTypes.toList ((Value.bool true).resultList f.resultTypes.size) (s.fn H (ds ++ [])).results [] := fun b sp hd => by
    rw [hres, htb]; exact Go.trodAll_cons_mk (shut_bool hub _) trodAll_mk0
  have hvarT : ∀ sp : Nat → Bool, DataW.TrodVars enc P W' sp s.vars (s.fn H (ds ++ [])).vars [] := fun sp => by
    rw [hvs, hvars]; rfl
  refine ⟨ds, [], before, [], before, [], hW, hresT _ _ _, harg _ hold, hvarT _, World.keptBut_mono (fun p hp => ⟨hp, ?_⟩) (hb.frame (· ∈ before)), fun _ => ?_⟩
  · exact Or.inr (by simpa using hp)
  · refine ⟨?_, _, _, ([] ++ before) ++ [], ⟨[] ++ before, [], trodAll_append (harg _ (fun _ _ => rfl)) (hresT _ _ _), hvarT _, rfl, ?_, ?_⟩, ?_⟩
    · exact ok_one htb rfl (okWide_bool_mk hub _)
    · intro b off hp
      have hin : MemPlace.cell b off ∈ before := by simpa using hp
      rw [hb.frozen (hlt _ hin)]
      exact hz b off hin
    · intro ha
      have := hn ha
      simpa using this
    · intro p hp _
      simpa using hp
end

/-- All that stands when a row begins: it doesn't turn. -/
def rowBase (W : World) : Base := ⟨W, fun b => b < W.heap.size⟩
def rowEnv (W : World) : Env := ⟨rowBase W, 0, fun _ => 0, fun _ => undef, fun _ _ => False⟩
theorem rowBase_ok (W : World) : (rowBase W).ok W := fun _ h => ⟨h, rfl⟩

/-- A law comes to true and turns nothing. -/
def LawTrue (P : Program) (f : FuncId) (us : Array Value) (W : World) : Prop := Calls P f us W fun e w' => e = .returned (.bool true) ∧ Below W.heap.size W w'
theorem Fn.law {P : Program} {f : FuncId} {xs : List XV} (hf : Fn P f xs (Tells (.c (.b true)))) {W : World} {us : List Value} (hr : RelTs (rowEnv W) xs us) : LawTrue P f us.toArray W :=
  (hf.run (rowBase W) W us (rowBase_ok W) hr).mono fun e w' ⟨u, x, h', E', he, hR, hx, hp⟩ => by
    have : u = .bool true := entV_rel hR hx
    exact ⟨by rw [he, this], hp.fr.below⟩
end Go.Eng

/- The engine, part Q: values that are one; worlds that a reading statement passes through. Nothing of any program is proved here. -/
namespace Go.Eng
open Go Go.RowKit
set_option linter.unusedSimpArgs false
set_option linter.unusedVariables false

def finQ (dst : Option Tmp) (x : XV) (ts : List XV) (k : List XV → Prop) : Prop :=
  match dst with
  | some d => forceV x fun x => setK ts d x k
  | none => k ts
theorem finQ_eq (dst : Option Tmp) (x : XV) (ts : List XV) (k : List XV → Prop) : finQ dst x ts k = k (match dst with | some d => ts.set d x | none => ts) := by
  cases dst <;> simp only [finQ, forceV_eq, setK_eq]

section
variable {w0 : Org} {F : Nat → Prop} {E : Env} {h : List It} {w : World}
/-- The worlds that a reading statement passes through. -/
def Later (w : World) : World → Prop := fun w' => Fr (fun _ => False) w w'

theorem Heap.later (hp : Heap w0 F E h w) {w' : World} (hf : Later w w') : Heap w0 F E h w' := by
  have keep : ∀ k, k < w.heap.size → w'.heap[k]? = w.heap[k]? := fun k hk => hf.block k hk (fun x => x)
  refine ⟨fun k hB => ⟨Nat.lt_of_lt_of_le (hp.bs k hB).1 hf.size, (keep k (hp.bs k hB).1).trans (hp.bs k hB).2⟩, hp.le, hp.nb, hp.n, ?_, ?_, hp.sep, ?_⟩
  · intro k x hx
    exact (hp.ok k x hx).of_block fun b hb => keep b (hp.own k x b hx hb).1
  · intro k x b hx hb
    have h1 := hp.own k x b hx hb
    exact ⟨Nat.lt_of_lt_of_le h1.1 hf.size, h1.2⟩
  · exact ⟨hf.os.trans hp.fr.os, hf.tape.trans hp.fr.tape, hf.output.trans hp.fr.output, Nat.le_trans hp.fr.size hf.size,
      fun k hk hF => (keep k (Nat.lt_of_lt_of_le hk hp.fr.size)).trans (hp.fr.block k hk hF)⟩

theorem Heap.same (hp : Heap w0 F E h w) {w' : World} (hf : Later w w') (rd : Nat → Bool) : Same E h rd w w' :=
  ⟨(hp.later hf).bs, fun k x b hx _ hb => hf.block b (hp.own k x b hx hb).1 (fun x => x)⟩

end

/-- Values that are one, whatever memory is. -/
def detB : XV → Bool
  | .c (.v x) => x.oneCell'
  | .c (.il _ _) => true
  | .c (.i _ _) => true
  | .c .bt => true
  | .c .bf => true
  | .c (.b _) => true
  | _ => false
theorem detB_spec {v : XV} (hv : detB v = true) : ∃ u, (∀ E, RelV E v u) ∧ ∀ E u', RelV E v u' → u' = u := by
  match v, hv with
  | .c (.v x), hv => exact ⟨x, fun E => ⟨rfl, hv⟩, fun E u' h => h.1⟩
  | .c (.il k n), _ => exact ⟨_, fun E => (rfl : _ = Value.int k n), fun E u' h => h⟩
  | .c (.i k n), _ => exact ⟨_, fun E => (rfl : _ = Value.int k n), fun E u' h => h⟩
  | .c .bt, _ => exact ⟨_, fun E => (rfl : _ = Value.bool true), fun E u' h => h⟩
  | .c .bf, _ => exact ⟨_, fun E => (rfl : _ = Value.bool false), fun E u' h => h⟩
  | .c (.b x), _ => exact ⟨_, fun E => (rfl : _ = Value.bool x), fun E u' h => h⟩

end Go.Eng

/- The engine, part R: a law's arguments, opened by their types; nothing of any program is proved here. -/
namespace Go.Eng
open Go Go.RowKit Go.ChangeShapes Go.WideShapes
set_option linter.unusedSimpArgs false
set_option linter.unusedVariables false

/-- What a cell may be, by its type. -/
inductive Sh where
  | int (k : IntKind)
  | bool
  | str
  | sl (z : Nat) (l : List Sh)

mutual
def fit : Sh → XC → Prop
  | .int k, x => ∃ n, x = .i k n ∧ (Lit.int k n).wf = true
  | .bool, x => ∃ b, x = .b b
  | .str, x => ∃ s : ByteArray, x = .v (.string s) ∧ s.size ≤ maxLen
  | .sl z l, x => ∃ n f, x = .rs n z f ∧ n ≤ maxLen ∧ ∀ i, i < n → fitF l (f i) 0
def fitF : List Sh → (Nat → XC) → Nat → Prop
  | [], _, _ => True
  | s :: l, f, j => fit s (f j) ∧ fitF l f (j + 1)
end
def fits : List Sh → List XC → Prop
  | [], [] => True
  | s :: l, x :: xs => fit s x ∧ fits l xs
  | _, _ => False
theorem fits.len : ∀ {l : List Sh} {xs : List XC}, fits l xs → l.length = xs.length
  | [], [], _ => rfl
  | _ :: _, _ :: _, h => by simp [fits.len h.2]
  | [], _ :: _, h => h.elim
  | _ :: _, [], h => h.elim
theorem fits.append : ∀ {l l' : List Sh} {xs xs' : List XC}, fits l xs → fits l' xs' → fits (l ++ l') (xs ++ xs')
  | [], _, [], _, _, h => h
  | _ :: _, _, _ :: _, _, h, h' => ⟨h.1, fits.append h.2 h'⟩
  | [], _, _ :: _, _, h, _ => h.elim
  | _ :: _, _, [], _, h, _ => h.elim
theorem fits.fitF : ∀ {l : List Sh} {xs : List XC} {f : Nat → XC} {o : Nat}, fits l xs → (∀ j, j < xs.length → f (o + j) = xs.getD j .un) → fitF l f o
  | [], [], _, _, _, _ => by unfold Go.Eng.fitF; trivial
  | s :: l, x :: xs, f, o, h, hf => by
    unfold Go.Eng.fitF
    refine ⟨?_, fits.fitF h.2 fun j hj => ?_⟩
    · have := hf 0 (by simp)
      simp at this
      rw [this]; exact h.1
    · have := hf (j + 1) (by simpa using hj)
      rw [Nat.add_assoc, Nat.add_comm 1 j, this]; simp
  | [], _ :: _, _, _, h, _ => h.elim
  | _ :: _, [], _, _, h, _ => h.elim

theorem fits_cons {s : Sh} {l : List Sh} : ∀ {xs : List XC}, fits (s :: l) xs → ∃ x r, xs = x :: r ∧ fit s x ∧ fits l r
  | x :: r, h => ⟨x, r, rfl, h.1, h.2⟩
  | [], h => h.elim
theorem fits_nil : ∀ {xs : List XC}, fits [] xs → xs = []
  | [], _ => rfl
  | _ :: _, h => h.elim
theorem fit_int {k : IntKind} {x : XC} (h : fit (.int k) x) : ∃ n, x = .i k n ∧ (Lit.int k n).wf = true := by unfold fit at h; exact h
theorem fit_bool {x : XC} (h : fit .bool x) : ∃ b, x = .b b := by unfold fit at h; exact h
theorem fit_str {x : XC} (h : fit .str x) : ∃ s : ByteArray, x = .v (.string s) ∧ s.size ≤ maxLen := by unfold fit at h; exact h
theorem fit_sl {z : Nat} {l : List Sh} {x : XC} (h : fit (.sl z l) x) : ∃ n f, x = .rs n z f ∧ n ≤ maxLen ∧ ∀ i, i < n → fitF l (f i) 0 := by unfold fit at h; exact h
/-- A slice of ints. -/
theorem rs_ints {E : Env} {k : IntKind} {n : Nat} {f : Nat → Nat → XC} {v : Value} (hf : ∀ i, i < n → fitF [.int k] (f i) 0) (hr : RelV E (.c (.rs n 1 f)) v) :
    ∃ g : Nat → Int, (∀ i, i < n → (Lit.int k (g i)).wf = true) ∧ RelV E (.c (.rs n 1 fun i _ => .i k (g i))) v := by
  have h : ∀ i, ∃ m : Int, i < n → f i 0 = .i k m ∧ (Lit.int k m).wf = true := fun i => by
    by_cases hi : i < n
    · have := hf i hi
      simp only [fitF] at this
      obtain ⟨m, h1, h2⟩ := fit_int this.1
      exact ⟨m, fun _ => ⟨h1, h2⟩⟩
    · exact ⟨0, fun h => absurd h hi⟩
  obtain ⟨g, hg⟩ := Classical.axiomOfChoice h
  refine ⟨g, fun i hi => (hg i hi).2, ?_⟩
  refine entV_rel (x := .c (.rs n 1 f)) (show entC (.rs n 1 f) (.rs n 1 fun i _ => .i k (g i)) from ⟨rfl, rfl, fun i hi j hj => ?_⟩) hr
  have : j = 0 := by omega
  subst this
  exact entC_of_eq (hg i hi).1
/-- A slice of structs of ints alone. -/
theorem rs_rows {E : Env} {k : IntKind} {n z : Nat} {f : Nat → Nat → XC} {v : Value} (hf : ∀ i, i < n → fitF (List.replicate z (.int k)) (f i) 0) (hr : RelV E (.c (.rs n z f)) v) :
    ∃ g : Nat → Nat → Int, (∀ i, i < n → ∀ j, j < z → (Lit.int k (g i j)).wf = true) ∧ RelV E (.c (.rs n z fun i j => .i k (g i j))) v := by
  have key : ∀ (z o : Nat) (f : Nat → XC), fitF (List.replicate z (.int k)) f o → ∀ j, j < z → ∃ m : Int, f (o + j) = .i k m ∧ (Lit.int k m).wf = true := by
    intro z
    induction z with
    | zero => intro o f _ j hj; omega
    | succ z ih =>
      intro o f hf j hj
      rw [List.replicate_succ] at hf
      simp only [fitF] at hf
      cases j with
      | zero => exact fit_int hf.1
      | succ j =>
        have := ih (o + 1) f hf.2 j (by omega)
        rwa [Nat.add_assoc, Nat.add_comm 1 j] at this
  have h : ∀ p : Nat × Nat, ∃ m : Int, p.1 < n → p.2 < z → f p.1 p.2 = .i k m ∧ (Lit.int k m).wf = true := fun p => by
    by_cases hi : p.1 < n
    · by_cases hj : p.2 < z
      · obtain ⟨m, h1⟩ := key z 0 (f p.1) (hf p.1 hi) p.2 hj
        rw [Nat.zero_add] at h1
        exact ⟨m, fun _ _ => h1⟩
      · exact ⟨0, fun _ h => absurd h hj⟩
    · exact ⟨0, fun h => absurd h hi⟩
  obtain ⟨g, hg⟩ := Classical.axiomOfChoice h
  refine ⟨fun i j => g (i, j), fun i hi j hj => (hg (i, j) hi hj).2, ?_⟩
  exact entV_rel (x := .c (.rs n z f)) (show entC (.rs n z f) (.rs n z fun i j => .i k (g (i, j))) from ⟨rfl, rfl, fun i hi j hj => (entC_of_eq (hg (i, j) hi hj).1)⟩) hr

mutual
/-- The cells of a type. -/
def shT (P : Program) : Nat → TypeId → Option (List Sh)
  | 0, _ => none
  | d + 1, t =>
    match P.underlying t with
    | some (.int k) => some [.int k]
    | some .bool => some [.bool]
    | some .string => some [.str]
    | some (.slice e) => (match shT P d e with
      | some l => if l.length = P.cellsOf e then some [.sl l.length l] else none
      | none => none)
    | some (.array n e) => (match shT P d e with
      | some l => if l.length = P.cellsOf e ∧ n * P.cellsOf e = P.cellsOf t then some (List.replicate n l).flatten else none
      | none => none)
    | some (.struct fs) => (match shFs P d 0 fs.toList with
      | some l => if l.length = P.cellsOf t then some l else none
      | none => none)
    | _ => none
def shFs (P : Program) : Nat → Nat → List Field → Option (List Sh)
  | 0, _, _ => none
  | _ + 1, _, [] => some []
  | d + 1, off, f :: fs =>
    if f.offset = off then
      match shT P d f.type, shFs P d (off + P.cellsOf f.type) fs with
      | some l, some r => if l.length = P.cellsOf f.type then some (l ++ r) else none
      | _, _ => none
    else none
end

section
variable {H : Type} {enc : TypeId × Value → H} {P : Program} {W : World} {base : Nat} {spare : Nat → Bool} {held : Bool}

theorem St.of_fit {s : Sh} {x : XC} (h : fit s x) : St x := by
  cases s <;> unfold fit at h
  · obtain ⟨n, rfl, _⟩ := h; trivial
  · obtain ⟨b, rfl⟩ := h; trivial
  · obtain ⟨s, rfl, _⟩ := h; trivial
  · obtain ⟨n, f, rfl, _⟩ := h; trivial

theorem fits.get : ∀ {l : List Sh} {xs : List XC}, fits l xs → ∀ (j : Nat) (x : XC), xs[j]? = some x → ∃ s, fit s x
  | [], [], _, j, x, e => by simp at e
  | s :: l, y :: ys, h, 0, x, e => by simp at e; exact ⟨s, e ▸ h.1⟩
  | s :: l, y :: ys, h, j + 1, x, e => fits.get h.2 j x (by simpa using e)
  | [], _ :: _, h, _, _, _ => h.elim
  | _ :: _, [], h, _, _, _ => h.elim

theorem getD_of {l : List XC} {j : Nat} {x : XC} (h : l[j]? = some x) : l.getD j .un = x := by simp [List.getD_eq_getElem?_getD, h]

/-- What the opener finds. -/
def Found (W : World) (l : List Sh) (cs : List Value) : Prop := ∃ xs, fits l xs ∧ RelL (rowEnv W) xs cs

theorem Found.append {l l' : List Sh} {cs cs' : List Value} (h : Found W l cs) (h' : Found W l' cs') : Found W (l ++ l') (cs ++ cs') := by
  obtain ⟨xs, h1, h2⟩ := h
  obtain ⟨xs', h3, h4⟩ := h'
  exact ⟨xs ++ xs', h1.append h3, h2.append h4⟩

theorem found_slice {a : Addr} {len cap z : Nat} {l : List Sh} (hl : len ≤ cap) (hm : cap ≤ maxLen) (hz : l.length = z)
    (h : ∀ i, i < len → ∃ cs', W.cells? base (a.add (i * z)) z = some cs' ∧ Found W l cs') : Found W [.sl l.length l] [.slice (some a) len cap] := by
  have hall : ∀ i, ∃ xs : List XC, i < len → fits l xs ∧ ∀ j, j < z → (rowBase W).B a.block ∧ ∃ u, W.cell? (a.add (i * z + j)) = some u ∧ RelC (rowEnv W) (xs.getD j .un) u := by
    intro i
    by_cases hi : i < len
    · obtain ⟨cs', hc, xs, hf, hr⟩ := h i hi
      obtain ⟨_, hcl, hat⟩ := World.cells?_some hc
      refine ⟨xs, fun _ => ⟨hf, fun j hj => ?_⟩⟩
      have hxl := hr.len
      have hxj : xs[j]? = some (xs[j]'(by omega)) := List.getElem?_eq_getElem (by omega)
      obtain ⟨u, hu, hru⟩ := hr.get j hxj
      have hcell := hat j hj
      rw [hu, add_add] at hcell
      refine ⟨?_, u, hcell, by rw [getD_of hxj]; exact hru⟩
      have := World.block_lt_of_cell? W _ hcell
      rwa [block_add] at this
    · exact ⟨[], fun h' => absurd h' hi⟩
  obtain ⟨G, hG⟩ := Classical.axiomOfChoice hall
  refine ⟨[.rs len z fun i j => (G i).getD j .un], ⟨?_, trivial⟩, ⟨⟨some a, cap, rfl, hl, hm, fun i hi => ⟨a, rfl, fun j hj => ?_⟩⟩, trivial⟩⟩
  · unfold fit
    refine ⟨len, _, by rw [hz], by omega, fun i hi => ?_⟩
    exact (hG i hi).1.fitF fun j hj => by simp
  · obtain ⟨hB, u, hu, hr⟩ := (hG i hi).2 j hj
    have hlen := (hG i hi).1.len
    have hx : (G i)[j]? = some ((G i)[j]'(by omega)) := List.getElem?_eq_getElem (by omega)
    refine ⟨hB, u, hu, ?_, hr⟩
    obtain ⟨s, hs⟩ := (hG i hi).1.get j _ hx
    show St ((G i).getD j .un)
    rw [getD_of hx]
    exact St.of_fit hs

theorem found_array {e : TypeId} {l : List Sh} {z : Nat} (hz : l.length = z) : ∀ (n : Nat) (cs : List Value), cs.length = n * z → (∀ i, i < n → Found W l ((cs.drop (i * z)).take z)) → Found W (List.replicate n l).flatten cs
  | 0, cs, hc, _ => by
    have : cs = [] := List.eq_nil_of_length_eq_zero (by simpa using hc)
    subst this
    exact ⟨[], trivial, trivial⟩
  | n + 1, cs, hc, h => by
    have h0 := h 0 (by omega)
    rw [Nat.zero_mul, List.drop_zero] at h0
    have hr := found_array (e := e) hz n (cs.drop z) (by rw [List.length_drop, hc, Nat.succ_mul]; omega) (fun i hi => by
      have := h (i + 1) (by omega)
      rw [List.drop_drop, Nat.add_comm z (i * z)]
      rw [Nat.succ_mul] at this
      exact this)
    rw [List.replicate_succ, List.flatten_cons]
    have := h0.append hr
    rwa [List.take_append_drop] at this

mutual
theorem shT_found : ∀ (d : Nat) {t : TypeId} {l : List Sh} {fuel : Nat} {cs : List Value} {x : DataW H × List MemPlace}, shT P d t = some l → DataW.trod enc P W base spare held fuel t cs = some x → Found W l cs
  | 0, t, l, fuel, cs, x, hs, h => by simp [shT] at hs
  | d + 1, t, l, fuel, cs, x, hs, h => by
    unfold shT at hs
    split at hs
    · rename_i k hu
      cases hs
      obtain ⟨n, rfl, _, hw⟩ := DataW.trod_int hu h
      exact ⟨[.i k n], ⟨by unfold fit; exact ⟨n, rfl, hw⟩, trivial⟩, ⟨rfl, trivial⟩⟩
    · rename_i hu
      cases hs
      obtain ⟨b, rfl, _⟩ := DataW.trod_bool hu h
      exact ⟨[.b b], ⟨by unfold fit; exact ⟨b, rfl⟩, trivial⟩, ⟨rfl, trivial⟩⟩
    · rename_i hu
      cases hs
      obtain ⟨s, rfl, _, hs⟩ := DataW.trod_string hu h
      exact ⟨[.v (.string s)], ⟨by unfold fit; exact ⟨s, rfl, hs⟩, trivial⟩, ⟨⟨rfl, rfl⟩, trivial⟩⟩
    · rename_i e hu
      split at hs
      case h_2 => cases hs
      rename_i l' hl'
      split at hs
      case isFalse => cases hs
      rename_i hlen
      cases hs
      rcases Go.Deep.open_slice hu h with ⟨rfl, _⟩ | ⟨a, len, cap, m, n, D, Pl, rfl, hb, hl, hm, hmm, _, hi⟩
      · refine ⟨[.rs 0 l'.length fun _ _ => .un], ⟨by unfold fit; exact ⟨0, _, rfl, by omega, fun i hi => by omega⟩, trivial⟩, ⟨⟨none, 0, rfl, by omega, by simp [maxLen], fun i hi => by omega⟩, trivial⟩⟩
      · refine found_slice (base := base) (z := P.cellsOf e) hl hm hlen fun i hil => ?_
        obtain ⟨cs', hc, ht⟩ := hi i (by rw [hmm]; split <;> omega)
        exact ⟨cs', hc, shT_found d hl' ht⟩
    · rename_i n e hu
      split at hs
      case h_2 => cases hs
      rename_i l' hl'
      split at hs
      case isFalse => cases hs
      rename_i hlen
      cases hs
      obtain ⟨xs, m, _, _, hcl, hxl, hi⟩ := DataW.trod_array hu h
      refine found_array (e := e) hlen.1 n cs (by rw [hcl, hlen.2]) fun i hin => ?_
      have := hi i hin
      have hx : xs[i]? = some (xs[i]'(by omega)) := List.getElem?_eq_getElem (by omega)
      rw [hx] at this
      exact shT_found d hl' this
    · rename_i fs hu
      split at hs
      case h_2 => cases hs
      rename_i l' hl'
      split at hs
      case isFalse => cases hs
      rename_i hlen
      cases hs
      obtain ⟨xs, n, _, _, hcl, hxl, hf⟩ := DataW.trod_struct hu h
      have := shFs_found d (off := 0) (n := n) (cs := cs) hl' (by rw [hcl, hlen]; omega) (fun i f hif => ⟨xs[i]'(by
        have := (List.getElem?_eq_some_iff.1 hif).1
        simp at this; omega), by
        have hlt : i < xs.length := by
          have := (List.getElem?_eq_some_iff.1 hif).1
          simp at this; omega
        rw [← List.getElem?_eq_getElem hlt]
        exact hf i f (by simpa using hif)⟩)
      simpa using this
    · cases hs
theorem shFs_found : ∀ (d : Nat) {off : Nat} {fs : List Field} {l : List Sh} {n : Nat} {cs : List Value}, shFs P d off fs = some l → cs.length = off + l.length →
    (∀ (i : Nat) (f : Field), fs[i]? = some f → ∃ x, DataW.trod enc P W base spare held n f.type ((cs.drop f.offset).take (P.cellsOf f.type)) = some x) → Found W l (cs.drop off)
  | 0, _, _, _, _, _, hs, _, _ => by simp [shFs] at hs
  | d + 1, off, [], l, n, cs, hs, hc, h => by
    simp [shFs] at hs
    subst hs
    have : cs.drop off = [] := List.drop_eq_nil_of_le (by simp at hc; omega)
    rw [this]
    exact ⟨[], trivial, trivial⟩
  | d + 1, off, f :: fs, l, n, cs, hs, hc, h => by
    unfold shFs at hs
    split at hs
    case isFalse => cases hs
    rename_i ho
    split at hs
    case h_2 => cases hs
    rename_i l1 l2 h1 h2
    split at hs
    case isFalse => cases hs
    rename_i hlen
    cases hs
    obtain ⟨x, hx⟩ := h 0 f rfl
    rw [ho] at hx
    have hA := shT_found d h1 hx
    have hB := shFs_found d (n := n) (cs := cs) h2 (by rw [hc, List.length_append, hlen]; omega) (fun i f' hf => h (i + 1) f' (by simpa using hf))
    have := hA.append hB
    rwa [← List.drop_drop, List.take_append_drop] at this
end

/-- A parameter of one cell. -/
theorem open_one {d : Nat} {t : TypeId} {s : Sh} {v : Value} {dd : DataW H} {p : List MemPlace} {b0 : Nat} (hs : shT P d t = some [s]) (hna : isAggT P t = false) (hv : Value.okWide P W .any b0 t v)
    (h : DataW.Trod enc P W base spare held t v dd p) : ∃ x, fit s x ∧ RelV (rowEnv W) (.c x) v := by
  obtain ⟨fuel, h⟩ := h
  obtain ⟨xs, hf, hr⟩ := shT_found d hs h
  match xs, hf with
  | [x], hf =>
    have hc : v.cells.toList = [v] := by
      cases v <;> first | rfl | skip
      rename_i vs
      exfalso
      cases hu : P.underlying t with
      | none => cases d <;> simp [shT, hu] at hs
      | some u => cases u <;> simp [isAggT, hu] at hna <;> simp [Value.okWide, hu, Cell.okWide, Cell.ok] at hv
    rw [hc] at hr
    exact ⟨x, hf.1, hr.1⟩
/-- A parameter that is a struct or an array. -/
theorem open_agg {d : Nat} {t : TypeId} {l : List Sh} {v : Value} {dd : DataW H} {p : List MemPlace} {b0 : Nat} (hs : shT P d t = some l) (hna : isAggT P t = true) (hv : Value.okWide P W .any b0 t v)
    (h : DataW.Trod enc P W base spare held t v dd p) : ∃ xs, fits l xs ∧ RelV (rowEnv W) (.a xs) v := by
  obtain ⟨fuel, h⟩ := h
  obtain ⟨xs, hf, hr⟩ := shT_found d hs h
  have hc : ∃ vs : Array Value, v = .agg vs := by
    cases hu : P.underlying t with
    | none => simp [isAggT, hu] at hna
    | some u => cases u <;> simp [isAggT, hu] at hna <;> (simp only [Value.okWide, hu] at hv; obtain ⟨cs, h1, _⟩ := hv; exact ⟨cs, h1⟩)
  obtain ⟨vs, rfl⟩ := hc
  exact ⟨xs, hf, vs, rfl, hr⟩
end
end Go.Eng

/- The engine, part S: a call walked in place, and a call that is lent own memory to read; nothing of any program is proved here. -/
namespace Go.Eng
open Go Go.RowKit
set_option linter.unusedSimpArgs false
set_option linter.unusedVariables false

/-! ### in place -/
def inlQ (C : Cx) (fn : Func) (j : Nat) (vs : List Value) (k : KE) : KQ
  | .normal, tc, h => resX C.T tc h fn.results.toList fun x => (match itemAt h j with
    | .held vs' ts => vs' = vs ∧ setH h j .dead fun h => k x ts h
    | _ => False)
  | .ret, tc, h => resX C.T tc h fn.results.toList fun x => (match itemAt h j with
    | .held vs' ts => vs' = vs ∧ setH h j .dead fun h => k x ts h
    | _ => False)
  | _, _, _ => False
/-- The callee's code, in the caller's memory; the caller's slots lie aside meanwhile. -/
def inlX (C : Cx) (fn : Func) (args : List XV) (ts : List XV) (h : List It) (k : KE) (vs : List Value) : Prop :=
  lenK h fun n => snocH h (.held vs ts) fun h1 => forceTs (padX fn.ntmps args) fun tc => codeX { C with rd := none } (bodyOf fn) (inlQ C fn n vs k) tc h1

section
variable {C : Cx} (hT : TabOk C.P C.T)

theorem Heap.drop {w0 : Org} {F : Nat → Prop} {E : Env} {h : List It} {w : World} (hp : Heap w0 F E h w) (j : Nat) : Heap w0 F E (h.set j .dead) w := by
  have at_ : ∀ {k : Nat} {y : It}, (h.set j .dead)[k]? = some y → y = .dead ∨ h[k]? = some y := by
    intro k y hy
    by_cases he : j = k
    · subst he
      rw [List.getElem?_set_self'] at hy
      cases hh : h[j]? with
      | none => rw [hh] at hy; simp at hy
      | some z => rw [hh] at hy; simp at hy; exact .inl hy.symm
    · rw [List.getElem?_set_ne he] at hy; exact .inr hy
  refine ⟨hp.bs, hp.le, hp.nb, by simp [hp.n], ?_, ?_, ?_, hp.fr⟩
  · intro k y hy
    rcases at_ hy with rfl | hy
    · trivial
    · exact hp.ok k y hy
  · intro k y b hy hb
    rcases at_ hy with rfl | hy
    · simp [Ow] at hb
    · exact hp.own k y b hy hb
  · intro i k x y b hx hy hb hb'
    rcases at_ hx with rfl | hx
    · simp [Ow] at hb
    · rcases at_ hy with rfl | hy
      · simp [Ow] at hb'
      · exact hp.sep i k x y b hx hy hb hb'

include hT in
theorem callx_inline {f : FuncId} {args ts : List XV} {h : List It} {k : KE} {fn : Func} (hf : C.P.funcs[f]? = some fn) (hb : fn.body.isSome = true) (hn : (fn.name == "runtime.NumGoroutine") = false)
    (hh : ∀ vs, inlX C fn args ts h k vs) : CallX C f args ts h k := by
  unfold CallX
  refine ⟨⟨fn, hf, hn, hb⟩, fun w0 F E w vs us hr hargs hp => ?_⟩
  obtain ⟨c, hc⟩ := Option.isSome_iff_exists.1 hb
  replace hh := hh vs
  unfold inlX at hh
  rw [lenK_eq, snocH_eq, forceTs_eq, bodyOf, hc] at hh
  have hle := Env.push_le E 0 undef
  have hp1 : Heap w0 F (E.push 0 undef) (h ++ [.held vs ts]) w := hp.push (Fr.refl _ _) (show RelTs _ ts vs from hr.mono hle) (fun c hc => by simp [Ow] at hc)
  have ha := hargs.mono hle
  refine callsIn_wide.1 (callsIn_of_wp_marks (n := 0) hf hc trivial (codeX_sound (C := { C with rd := none }) hT c hh (Cfg.start (w0 := w0) (F := F) (E := E.push 0 undef) rfl ?_ hp1) ?_))
  · have hl := ha.len
    simp only [Array.toList_append, Array.toList_replicate, List.size_toArray, padX, hl]
    exact ha.append (rep_undef _)
  · intro e tc h' a w' hq hcfg
    obtain ⟨w1, F1, hsub, hd, E', hr', hp'⟩ := hcfg
    have key : (resX C.T tc h' fn.results.toList fun x => (match itemAt h' h.length with
        | .held vs' ts => vs' = vs ∧ setH h' h.length .dead fun h => k x ts h
        | _ => False)) → LeavesInM Fence.wide 0 C.P fn a.tmps (fun e w' => ∃ u x ts' h'' E'', e = .returned u ∧ k x ts' h'' ∧ RelV E'' x u ∧ RelTs E'' ts' vs ∧ Heap w0 F E'' h'' w') a.defers .returning w' := fun hq =>
      Heap.fnf hsub hd hp' fun w'' hp'' => by
        obtain ⟨x, u, hk, hx, hrun⟩ := resX_sound hT hq hr' hp''
        split at hk
        case h_2 => exact hk.elim
        rename_i vs' ts' hit
        obtain ⟨rfl, hk⟩ := hk
        rw [setH_eq] at hk
        have hheld := hp''.ok _ _ (itemAt_eq _ _ hit (by simp))
        exact ⟨u, hrun, u, x, ts', _, E', rfl, hk, hx, hheld, hp''.drop _⟩
    cases e with
    | normal => exact key hq
    | ret => exact key hq
    | exit n => exact hq.elim
    | goto n => exact hq.elim
end

/-- Numbers taken for literals. -/
def litC : XC → XC
  | .i k n => .il k n
  | x => x
def litV : XV → XV
  | .c x => .c (litC x)
  | .a l => .a (l.map litC)
  | x => x
theorem litC_rel {E : Env} {x : XC} {v : Value} (h : RelC E x v) : RelC E (litC x) v := by cases x <;> exact h
theorem litL_rel {E : Env} : ∀ {l : List XC} {vs : List Value}, RelL E l vs → RelL E (l.map litC) vs
  | [], [], _ => trivial
  | _ :: _, _ :: _, h => ⟨litC_rel h.1, litL_rel h.2⟩
  | [], _ :: _, h => h.elim
  | _ :: _, [], h => h.elim
theorem litV_rel {E : Env} {x : XV} {v : Value} (h : RelV E x v) : RelV E (litV x) v := by
  cases x with
  | c x => exact litC_rel h
  | a l => obtain ⟨vs, e, hl⟩ := h; exact ⟨vs, e, litL_rel hl⟩
  | un => exact h
  | t l => exact h
theorem litTs_rel {E : Env} : ∀ {l : List XV} {vs : List Value}, RelTs E l vs → RelTs E (l.map litV) vs
  | [], [], _ => trivial
  | _ :: _, _ :: _, h => ⟨litV_rel h.1, litTs_rel h.2⟩
  | [], _ :: _, h => h.elim
  | _ :: _, [], h => h.elim
/-- A call whose numbers are literals. -/
theorem callx_lit {C : Cx} {f : FuncId} {args ts : List XV} {h : List It} {k : KE} (hh : CallX C f (args.map litV) ts h k) : CallX C f args ts h k := by
  unfold CallX at *
  exact ⟨hh.1, fun w0 F E w vs us hr hargs hp => hh.2 w0 F E w vs us hr (litTs_rel hargs) hp⟩

/-! ### lent to read -/
def lendC (h : List It) (x : XC) : XC :=
  match x with
  | .ow it => (match itemAt h it with | .row _ z xs => rsOf xs z | .prow _ z as none => rsP as z | _ => .ow it)
  | .p it off => (match itemAt h it with | .cells _ cs => (match allSt cs with | true => .ep (cs.length - off) (fun j => nthC cs (off + j)) | false => .p it off) | _ => .p it off)
  | x => x
def lendV (h : List It) : XV → XV
  | .c x => .c (lendC h x)
  | .a l => .a (l.map (lendC h))
  | x => x

section
variable {C : Cx} {E : Env} {h : List It} {w0 : Org} {w : World} {F : Nat → Prop}

/-- All that the run owns, too, doesn't turn meanwhile. -/
def Env.lent (E : Env) (h : List It) (w : World) : Env := E.more w fun b => ∃ (k : Nat) (x : It), h[k]? = some x ∧ Ow E k x b

theorem Heap.lent_ok (hp : Heap w0 F E h w) : (E.lent h w).bs.ok w := by
  rintro b (hb | ⟨k, x, hx, hb⟩)
  · exact ⟨(hp.bs b hb).1, rfl⟩
  · exact ⟨(hp.own k x b hx hb).1, rfl⟩

theorem lendC_rel (hp : Heap w0 F E h w) {x : XC} {v : Value} (hr : RelC E x v) : RelC (E.lent h w) (lendC h x) v := by
  have hle : EnvLe E (E.lent h w) := hp.le_more
  unfold lendC
  split
  · rename_i it
    split
    · rename_i e z xs hit
      have hx := itemAt_eq _ _ hit (by simp)
      rw [hr.2.1]
      exact hp.rs_of hx fun b hb => ⟨it, _, hx, hb⟩
    · rename_i e z as hit
      have hx := itemAt_eq _ _ hit (by simp)
      rw [hr.2.1]
      obtain ⟨ys, Ss, hpr⟩ := hp.ok it _ hx
      exact hpr.rs_of hp.bs fun b hb => ⟨it, _, hx, hb⟩
    · exact RelC.mono hle _ _ hr
  · rename_i it off
    split
    · rename_i ty cs hit
      split
      · rename_i hst
        have hx := itemAt_eq _ _ hit (by simp)
        obtain ⟨vs, hv, hrel⟩ := hp.ok it _ hx
        obtain ⟨hn, rfl⟩ := hr
        refine ⟨_, rfl, fun j hj => ?_⟩
        have hxj : cs[off + j]? = some (cs[off + j]'(by omega)) := List.getElem?_eq_getElem (by omega)
        obtain ⟨u, hu, hru⟩ := hrel.get _ hxj
        refine ⟨.inr ⟨it, _, hx, rfl⟩, u, ?_, ?_, ?_⟩
        · show w.cell? _ = some u
          rw [add_lit]
          simp only [World.cell?, hv]
          simpa using hu
        · show St (nthC cs (off + j))
          rw [nthC_eq _ _ _ hxj]; exact allSt_iff hst _ (List.mem_of_getElem? hxj)
        · show RelC _ (nthC cs (off + j)) u
          rw [nthC_eq _ _ _ hxj]; exact RelC.mono hle _ _ hru
      · exact RelC.mono hle _ _ hr
    · exact RelC.mono hle _ _ hr
  · exact RelC.mono hle _ _ hr

theorem lendV_rel (hp : Heap w0 F E h w) {x : XV} {v : Value} (hr : RelV E x v) : RelV (E.lent h w) (lendV h x) v := by
  cases x with
  | un => trivial
  | c x => exact lendC_rel hp hr
  | a l =>
    obtain ⟨vs, rfl, hl⟩ := hr
    refine ⟨vs, rfl, ?_⟩
    have key : ∀ {l : List XC} {vs : List Value}, RelL E l vs → RelL (E.lent h w) (l.map (lendC h)) vs := by
      intro l
      induction l with
      | nil => intro vs h; cases vs with | nil => trivial | cons _ _ => exact h.elim
      | cons x l ih => intro vs h; cases vs with | nil => exact h.elim | cons v vs => exact ⟨lendC_rel hp h.1, ih h.2⟩
    exact key hl
  | t l => exact RelV.mono (x := .t l) hp.le_more hr

theorem lendTs_rel (hp : Heap w0 F E h w) : ∀ {ts : List XV} {vs : List Value}, RelTs E ts vs → RelTs (E.lent h w) (ts.map (lendV h)) vs
  | [], [], _ => trivial
  | _ :: _, _ :: _, hr => ⟨lendV_rel hp hr.1, lendTs_rel hp hr.2⟩
  | [], _ :: _, hr => hr.elim
  | _ :: _, [], hr => hr.elim

/-- Nothing of memory in it. -/
def flatC : XC → Bool
  | .un | .il _ _ | .i _ _ | .bt | .bf | .b _ | .v _ => true
  | _ => false
def flatL : List XC → Bool
  | [] => true
  | x :: l => (match flatC x with | true => flatL l | false => false)
def flatWs : List XW → Bool
  | [] => true
  | .c x :: l => (match flatC x with | true => flatWs l | false => false)
  | .a m :: l => (match flatL m with | true => flatWs l | false => false)
def flatV : XV → Bool
  | .un => true
  | .c x => flatC x
  | .a l => flatL l
  | .t l => flatWs l
theorem flatC_rel {E' : Env} {x : XC} {v : Value} (hs : flatC x = true) (hr : RelC E x v) : RelC E' x v := by
  cases x <;> simp [flatC] at hs <;> exact hr
theorem flatL_rel {E' : Env} : ∀ {l : List XC} {vs : List Value}, flatL l = true → RelL E l vs → RelL E' l vs
  | [], [], _, _ => trivial
  | x :: l, v :: vs, hs, h => by
    unfold flatL at hs
    split at hs
    · rename_i h1; exact ⟨flatC_rel h1 h.1, flatL_rel hs h.2⟩
    · cases hs
  | [], _ :: _, _, h => h.elim
  | _ :: _, [], _, h => h.elim
theorem flatWs_rel {E' : Env} : ∀ {l : List XW} {vs : List Value}, flatWs l = true → RelWs E l vs → RelWs E' l vs
  | [], [], _, _ => trivial
  | .c x :: l, v :: vs, hs, h => by
    unfold flatWs at hs
    split at hs
    · rename_i h1; exact ⟨flatC_rel h1 h.1, flatWs_rel hs h.2⟩
    · cases hs
  | .a m :: l, v :: vs, hs, h => by
    unfold flatWs at hs
    split at hs
    · rename_i h1
      obtain ⟨us, e, hl⟩ := h.1
      exact ⟨⟨us, e, flatL_rel h1 hl⟩, flatWs_rel hs h.2⟩
    · cases hs
  | [], _ :: _, _, h => h.elim
  | .c _ :: _, [], _, h => h.elim
  | .a _ :: _, [], _, h => h.elim
theorem flatV_rel {E' : Env} {x : XV} {v : Value} (hs : flatV x = true) (hr : RelV E x v) : RelV E' x v := by
  cases x with
  | un => trivial
  | c x => exact flatC_rel hs hr
  | a l => obtain ⟨vs, e, hl⟩ := hr; exact ⟨vs, e, flatL_rel hs hl⟩
  | t l => obtain ⟨vs, e, hl⟩ := hr; exact ⟨vs, e, flatWs_rel hs hl⟩

theorem Heap.stays {w0 : Org} {F : Nat → Prop} {E : Env} {w w' : World} (hp : Heap w0 F E h w) (hf : Fr (fun _ => False) w w') : Heap w0 F E h w' := by
  have keep : ∀ k, k < w.heap.size → w'.heap[k]? = w.heap[k]? := fun k hk => hf.block k hk (fun x => x)
  refine ⟨fun k hB => ⟨Nat.lt_of_lt_of_le (hp.bs k hB).1 hf.size, (keep k (hp.bs k hB).1).trans (hp.bs k hB).2⟩, hp.le, hp.nb, hp.n, ?_, ?_, hp.sep, ?_⟩
  · intro k x hx
    exact (hp.ok k x hx).of_block fun b hb => keep b (hp.own k x b hx hb).1
  · intro k x b hx hb
    have h1 := hp.own k x b hx hb
    exact ⟨Nat.lt_of_lt_of_le h1.1 hf.size, h1.2⟩
  · exact ⟨hf.os.trans hp.fr.os, hf.tape.trans hp.fr.tape, hf.output.trans hp.fr.output, Nat.le_trans hp.fr.size hf.size,
      fun k hk hF => (keep k (Nat.lt_of_lt_of_le hk hp.fr.size)).trans (hp.fr.block k hk hF)⟩

/-- A call by contract, of a function that reads what the caller owns. -/
theorem callx_lend {f : FuncId} {args : List XV} {ts : List XV} {k : KE} {args' : List XV} {v : XV} (hf : Fn C.P f args' (Tells v)) (hl : args.map (lendV h) = args') (hs : stXs args' = true) (hv : flatV v = true) (hk : k v ts h) : CallX C f args ts h k := by
  unfold CallX
  refine ⟨hf.ok, fun w0 F E w vs us hr hargs hp => ?_⟩
  have hle : EnvLe E (E.lent h w) := hp.le_more
  refine (hf.run (E.lent h w).bs w us hp.lent_ok (stXs_rel (E := E.lent h w) (E' := ⟨(E.lent h w).bs, 0, fun _ => 0, fun _ => undef, fun _ _ => False⟩) rfl hs (hl ▸ lendTs_rel hp hargs))).mono fun e w' ⟨u, x, h', E', he, hR, hx, hp'⟩ => ?_
  exact ⟨u, v, ts, h, E, he, hk, flatV_rel hv (entV_rel hR hx), hr, hp.stays hp'.fr⟩

end
end Go.Eng

/- The engine, part Sa: copy from one box of the run's own into another one. Nothing of any program is proved here. -/
namespace Go.Eng
open Go Go.RowKit
set_option linter.unusedSimpArgs false
set_option linter.unusedVariables false
/-- Is it a copy? -/
def isCpy : Op → Option (Operand × Operand × TypeId)
  | .call c => (match c.callee, c.args.toList, c.argTypes.toList with
    | .builtin .copy, [d, s], [t, _] => some (d, s, t)
    | _, _, _ => none)
  | _ => none
def cpyX (T : Tab) (h : List It) (rd : Nat → Bool) (t : TypeId) (d s : XV) (ts : List XV) (k : KE) : Prop :=
  match T t with
  | some ti => (match ti.kd with
    | .sl e => (match T e with
      | some ei => (match d, s with
        | .c (.sp it off n _), .c (.sp it2 off2 n2 _) => (match itemAt h it, itemAt h it2 with
          | .cells ty cs, .cells _ cs2 => when (Nat.beq ei.size 1 && !rd it && Nat.ble (off + n) cs.length && Nat.ble (off2 + n2) cs2.length)
              (forceL (putL cs off ((cs2.drop off2).take (Nat.min n2 n))) fun cs => setH h it (.cells ty cs) fun h => k (.c (.i .i64 (Nat.min n2 n : Nat))) ts h)
          | _, _ => False)
        | _, _ => False)
      | none => False)
    | _ => False)
  | none => False
section
variable {P : Program} {T : Tab} (hT : TabOk P T) {E : Env} {h : List It} {w0 : Org} {w : World} {F : Nat → Prop}
include hT in
theorem cpyX_sound {rd : Nat → Bool} {ts : List XV} {o : Oper} {a : Act} {k : KE} {d s : Operand} {t : TypeId} (ho : isCpy o.op = some (d, s, t)) (hh : cpyX T h rd t (opv ts d) (opv ts s) ts k) (hr : RelTs E ts a.tmps.toList) (hp : Heap w0 F E h w) :
    ∃ it, rd it = false ∧ Done P w0 F E h (some it) (execOp a.eval o) w a.tmps.toList k := by
  have hd := opv_rel (E := E) hr d
  have hs := opv_rel (E := E) hr s
  unfold cpyX at hh
  split at hh
  case h_2 => exact hh.elim
  rename_i ti ht
  split at hh
  case h_2 => exact hh.elim
  rename_i e hkd
  have hu := mkKd_sl ((TIs.of (hT _ _ ht)).kd.symm.trans hkd)
  split at hh
  case h_2 => exact hh.elim
  rename_i ei hte
  have hse := TIs.of (hT _ _ hte)
  split at hh
  case h_2 => exact hh.elim
  rename_i it off n z1 it2 off2 n2 z2 ed es
  split at hh
  case h_2 => exact hh.elim
  rename_i ty cs ty2 cs2 hit hit2
  replace hh := when_iff hh
  obtain ⟨hb, hh⟩ := hh
  rw [forceL_eq, setH_eq] at hh
  simp only [Bool.and_eq_true, Bool.not_eq_true'] at hb
  obtain ⟨⟨⟨hz, hrd⟩, h1⟩, h2⟩ := hb
  have hz := Nat.eq_of_beq_eq_true hz
  have h1 := Nat.le_of_ble_eq_true h1
  have h2 := Nat.le_of_ble_eq_true h2
  rw [ed] at hd
  rw [es] at hs
  obtain ⟨hn1, c1, hv1, hc1⟩ := hd
  obtain ⟨hn2, c2, hv2, hc2⟩ := hs
  have hi := itemAt_eq _ _ hit (by simp)
  have hi2 := itemAt_eq _ _ hit2 (by simp)
  obtain ⟨cur, hcur, hrel⟩ := hp.ok it _ hi
  obtain ⟨cur2, hcur2, hrel2⟩ := hp.ok it2 _ hi2
  have hl1 : cs.length = cur.size := by rw [hrel.len, Array.length_toList]
  have hl2 : cs2.length = cur2.size := by rw [hrel2.len, Array.length_toList]
  have hm1 : Nat.min n2 n ≤ n := Nat.min_le_right _ _
  have hm2 : Nat.min n2 n ≤ n2 := Nat.min_le_left _ _
  obtain ⟨i, hinfo, hsz, _⟩ := hse.info
  have hrv : RelL E ((cs2.drop off2).take (Nat.min n2 n)) ((cur2.toList.drop off2).take (Nat.min n2 n)) := (hrel2.drop off2).take _
  have hvl : ((cur2.toList.drop off2).take (Nat.min n2 n)).length = Nat.min n2 n := by
    rw [List.length_take, List.length_drop, Array.length_toList]; omega
  have hrun := run_copy_row (P := P) w t (o.op |> fun op => match op with | .call c => c.argTypes.toList.getD 1 0 | _ => 0) o.type e (E.blk it) off n c1 ⟨E.blk it2, off2, none⟩ n2 c2 cur ty ((cur2.toList.drop off2).take (Nat.min n2 n)) hu
    (by rw [hinfo]; simp [hsz, hz]) hcur hvl (fun j v hv => by
      rw [List.getElem?_take] at hv
      split at hv
      · rw [List.getElem?_drop, Array.getElem?_toList] at hv
        simp only [Addr.add]
        by_cases hj : j = 0
        · subst hj; simp only [if_true, World.cell?, hcur2]; simpa using hv
        · simp only [hj, if_false, World.cell?, hcur2]; simpa using hv
      · cases hv) (by rw [hvl]; omega) hrv.all
  have hput := RelL.put off hrel hrv
  refine ⟨it, hrd, _, _, w.setRow (E.blk it) (cur.toList.take off ++ (cur2.toList.drop off2).take (Nat.min n2 n) ++ cur.toList.drop (off + ((cur2.toList.drop off2).take (Nat.min n2 n)).length)).toArray, _, ts, _, E, .inl rfl, ?_, hh, rfl, hr, ?_, ⟨by simp [World.setRow], fun b hb hne => setRow_other' w _ b _ (fun e => hne it _ rfl hi (by rw [e]; rfl))⟩, After.set hi rfl⟩
  rotate_left
  · refine hp.put hi rfl (fun c hc => hc.symm) ⟨_, setRow_heap w (E.blk it) cur _ ty _ hcur, ?_⟩ ?_ rfl rfl rfl (fun k hk => setRow_other' w _ k _ hk)
    · simpa using hput
    · simp [World.setRow]
  · unfold isCpy at ho
    split at ho
    case h_2 => cases ho
    rename_i c hop
    obtain ⟨callee, args, argTypes⟩ := c
    simp only at ho
    split at ho
    case h_2 => cases ho
    rename_i d' s' t' t2 e3 e4
    cases ho
    obtain rfl : args = #[d, s] := by cases args; simpa using e3
    obtain rfl : argTypes = #[t, t2] := by cases argTypes; simpa using e4
    unfold execOp
    rw [hop] at hrun ⊢
    simp only [resolve, Deferred.ofValue, invoke, builtin, List.map_toArray, List.map_cons, List.map_nil, hv1, hv2, Sem.run_bind, Sem.run_pure, Result.andThen_ok] at hrun ⊢
    have hrun := hrun
    simp only [hvl] at hrun ⊢
    simp only [List.getD_eq_getElem?_getD, List.getElem?_cons_succ, List.getElem?_cons_zero, Option.getD_some] at hrun
    rw [hrun]
    rfl
end
end Go.Eng

/- The engine, part T: a statement whose order is drawn and that writes, by a plan of orders; nothing of any program is proved here. -/
namespace Go.Eng
open Go Go.RowKit
set_option linter.unusedSimpArgs false
set_option linter.unusedVariables false

/-- A plan: 'take' an operation that only reads, ahead of all; where nothing else may come up: 'one', 'two'. -/
inductive Sch where
  | done
  | take (i : Nat) (s : Sch)
  | one (i : Nat) (s : Sch)
  | two (i j : Nat) (s s' : Sch)
  | alt (i : Nat) (s : Sch) (r : Sch)
  | go (is : List Nat)

/-- What a chain of 'alt' offers. -/
def headsS : Sch → List Nat
  | .alt i _ r => i :: headsS r
  | .one i _ => [i]
  | _ => []
def atS : Sch → Nat → Option Sch
  | .alt i s r, q => if q = i then some s else atS r q
  | .one i s, q => if q = i then some s else none
  | _, _ => none
/-- One behind the other. -/
def okG (ops : Array Oper) : Nat → Array Bool → List Nat → Bool
  | _, listed, [] => (Region.ready .any ops listed).isEmpty
  | n + 1, listed, i :: is => (Region.ready .any ops listed == [i]) && okG ops n (listed.setIfInBounds i true) is
  | 0, _, _ :: _ => false
def okS (ops : Array Oper) : Nat → Array Bool → Sch → Bool
  | _, listed, .done => (Region.ready .any ops listed).isEmpty
  | n, listed, .go is => okG ops n listed is
  | n + 1, listed, .take i s => Region.free .any ops listed i && (Region.ready .any ops listed).contains i && okS ops n (listed.setIfInBounds i true) s
  | n + 1, listed, .one i s => (Region.ready .any ops listed == [i]) && okS ops n (listed.setIfInBounds i true) s
  | n + 1, listed, .two i j s s' => (Region.ready .any ops listed == [i, j]) && okS ops n (listed.setIfInBounds i true) s && okS ops n (listed.setIfInBounds j true) s'
  | n + 1, listed, .alt i s r => (Region.ready .any ops listed == headsS (.alt i s r)) && (headsS (.alt i s r)).all fun q => match atS (.alt i s r) q with | some s' => okS ops n (listed.setIfInBounds q true) s' | none => false
  | 0, _, _ => false

/-- A plan for these operations: those that only read ahead of all others ('no': those that are not to be taken ahead). -/
def autoS (ops : Array Oper) (no : List Nat) : Nat → Array Bool → Sch
  | 0, _ => .done
  | n + 1, listed =>
    let r := Region.ready .any ops listed
    match r.find? fun i => Region.free .any ops listed i && ((ops[i]?).map fun o => kindOf o.op == 0).getD false && !no.contains i with
    | some i => .take i (autoS ops no n (listed.setIfInBounds i true))
    | none => match r with
      | [] => .done
      | [i] => .one i (autoS ops no n (listed.setIfInBounds i true))
      | i :: j :: _ => .two i j (autoS ops no n (listed.setIfInBounds i true)) (autoS ops no n (listed.setIfInBounds j true))

def grd (all : List Oper) (o : Oper) (ts : List XV) (yes no : List XV → Prop) : Prop :=
  match o.guard with
  | none => yes ts
  | some (j, want) => (match dstAt all j with
    | none => False
    | some d => (match get ts d, want with
      | .c .bt, true => yes ts
      | .c .bf, false => yes ts
      | .c .bt, false => no ts
      | .c .bf, true => no ts
      | .t [], _ => no ts
      | .c (.b x), true => (x = true → setK ts d (.c .bt) yes) ∧ (x = false → setK ts d (.c .bf) no)
      | .c (.b x), false => (x = true → setK ts d (.c .bt) no) ∧ (x = false → setK ts d (.c .bf) yes)
      | _, _ => False))

/-- A call, of which it is known too that it turned nothing. -/
@[irreducible] def CallF (C : Cx) (f : FuncId) (args : List XV) (ts : List XV) (h : List It) (k : KE) : Prop :=
  FnOk C.P f ∧ ∀ w0 F E w vs us, RelTs E ts vs → RelTs E args us → Heap w0 F E h w →
    Calls C.P f us.toArray w fun e w' => ∃ u x ts' h' E', e = .returned u ∧ k x ts' h' ∧ RelV E' x u ∧ RelTs E' ts' vs ∧ Heap w0 F E' h' w' ∧ Keep E h none w w' ∧ After E h none w.heap.size E' h'
def callGoF (C : Cx) (ts : List XV) (h : List It) (op : Op) (k : KE) : Prop :=
  match op with
  | .call c => (match c.callee with
    | .value f => fnOf (opv ts f) (c.args.toList.map (opv ts)) fun f args => lowTs args fun args => CallF C f args ts h k
    | _ => False)
  | _ => False

/-- An operation left to its own law; that turns no item of rd. -/
@[irreducible] def OpFX (C : Cx) (o : Oper) (ts : List XV) (h : List It) (rd : Nat → Bool) (k : KE) : Prop :=
  ∀ (w0 : Org) (F : Nat → Prop) (E : Env) (w : World) (a : Act), RelTs E ts a.tmps.toList → Heap w0 F E h w → ∃ t, (∀ it, t = some it → rd it = false) ∧ Done C.P w0 F E h t (execOp a.eval o) w a.tmps.toList k
/-- .. that reads nothing but items of rd, and is taken ahead. -/
@[irreducible] def OpTX (C : Cx) (o : Oper) (ts : List XV) (h : List It) (rd : Nat → Bool) (k : XV → Prop) : Prop :=
  ∀ (w0 : Org) (F : Nat → Prop) (E : Env) (w : World) (a : Act), RelTs E ts a.tmps.toList → Heap w0 F E h w → ∃ x u, k x ∧ RelV E x u ∧ ∀ W, Same E h rd w W → (execOp a.eval o).run C.P W = .ok (.value u) W

/-- A call that may turn what isn't of rd. -/
@[irreducible] def CallT (C : Cx) (f : FuncId) (args : List XV) (ts : List XV) (h : List It) (rd : Nat → Bool) (k : KE) : Prop :=
  FnOk C.P f ∧ ∀ w0 F E w vs us, RelTs E ts vs → RelTs E args us → Heap w0 F E h w →
    Calls C.P f us.toArray w fun e w' => ∃ u x ts' h' E', e = .returned u ∧ k x ts' h' ∧ RelV E' x u ∧ RelTs E' ts' vs ∧ Heap w0 F E' h' w' ∧
      (w.heap.size ≤ w'.heap.size ∧ ∀ b, b < w.heap.size → (∀ (j : Nat) (x : It), rd j = false → h[j]? = some x → ¬ Ow E j x b) → w'.heap[b]? = w.heap[b]?) ∧
      ∀ (k : Nat) (y : It) (b : Nat), h'[k]? = some y → rd k = false → Ow E' k y b → (∃ (j : Nat) (x : It), rd j = false ∧ h[j]? = some x ∧ Ow E j x b) ∨ w.heap.size ≤ b
def opG (C : Cx) (o : Oper) (ts : List XV) (h : List It) (rd : Nat → Bool) (k : KS) : Prop :=
  match hookB C.T ts h o.op with
  | true => False
  | false => match kindOf o.op with
  | 0 => valX C.T ts h (fun _ => true) o.op fun x => fin o.dst x ts h k
  | 1 => False
  | _ => (match o.op with
    | .call c => (match c.callee with
      | .value f => fnOf (opv ts f) (c.args.toList.map (opv ts)) fun f args => lowTs args fun args => CallT C f args ts h rd fun x ts h => fin o.dst x ts h k
      | _ => False)
    | _ => False)
def opF (C : Cx) (o : Oper) (ts : List XV) (h : List It) (rd : Nat → Bool) (k : KS) : Prop :=
  match isCpy o.op with
  | some (d, s, t) => cpyX C.T h rd t (opv ts d) (opv ts s) ts fun x ts h => fin o.dst x ts h k
  | none => match hookB C.T ts h o.op with
  | true => OpFX C o ts h rd fun x ts h => fin o.dst x ts h k
  | false => match kindOf o.op with
  | 0 => valX C.T ts h (fun _ => true) o.op fun x => fin o.dst x ts h k
  | 1 => when (match tchOp ts o.op with | none => true | some it => !rd it) (effX C.T ts h o.op fun x ts h => fin o.dst x ts h k)
  | _ => callGoF C ts h o.op fun x ts h => fin o.dst x ts h k

def opAt : List Oper → Nat → Option Oper
  | [], _ => none
  | o :: _, 0 => some o
  | _ :: l, n + 1 => opAt l n
theorem opAt_eq : ∀ (l : List Oper) (n : Nat), opAt l n = l[n]?
  | [], _ => rfl
  | _ :: _, 0 => rfl
  | _ :: l, n + 1 => by simp [opAt, opAt_eq l n]

def stepX (C : Cx) (all : List Oper) (rd : Nat → Bool) (i : Nat) (ts : List XV) (h : List It) (next : KS) : Prop :=
  match opAt all i with
  | some o => grd all o ts (fun ts => opF C o ts h rd next) (fun ts => fin o.dst (.t []) ts h next)
  | none => False

def goX (C : Cx) (all : List Oper) (rd : Nat → Bool) (k : KS) : List Nat → List XV → List It → Prop
  | [], ts, h => k ts h
  | i :: is, ts, h => (match opAt all i with
    | some o => grd all o ts (fun ts => opG C o ts h rd (goX C all rd k is)) (fun ts => fin o.dst (.t []) ts h (goX C all rd k is))
    | none => False)
def anyX (C : Cx) (all : List Oper) (rd : Nat → Bool) (k : KS) : Sch → List XV → List It → Prop
  | .done, ts, h => k ts h
  | .go is, ts, h => goX C all rd k is ts h
  | .take i s, ts, h => (match opAt all i with
    | some o => grd all o ts (fun ts => (match hookB C.T ts h o.op with
      | true => OpTX C o ts h rd fun x => finQ o.dst x ts fun ts => anyX C all rd k s ts h
      | false => match kindOf o.op with
      | 0 => valX C.T ts h rd o.op fun x => finQ o.dst x ts fun ts => anyX C all rd k s ts h
      | _ => False)) (fun ts => finQ o.dst (.t []) ts fun ts => anyX C all rd k s ts h)
    | none => False)
  | .one i s, ts, h => stepX C all rd i ts h (anyX C all rd k s)
  | .two i j s s', ts, h => stepX C all rd i ts h (anyX C all rd k s) ∧ stepX C all rd j ts h (anyX C all rd k s')
  | .alt i s r, ts, h => stepX C all rd i ts h (anyX C all rd k s) ∧ anyX C all rd k r ts h
theorem anyX_at {C : Cx} {all : List Oper} {rd : Nat → Bool} {k : KS} {ts : List XV} {h : List It} {q : Nat} {s' : Sch} : ∀ {r : Sch}, anyX C all rd k r ts h → atS r q = some s' → stepX C all rd q ts h (anyX C all rd k s')
  | .alt i s r, hh, ha => by
    unfold anyX at hh
    unfold atS at ha
    split at ha
    · rename_i e; cases ha; subst e; exact hh.1
    · exact anyX_at hh.2 ha
  | .one i s, hh, ha => by
    unfold anyX at hh
    unfold atS at ha
    split at ha
    · rename_i e; cases ha; subst e; exact hh
    · cases ha
  | .done, _, ha => by simp [atS] at ha
  | .go _, _, ha => by simp [atS] at ha
  | .take _ _, _, ha => by simp [atS] at ha
  | .two _ _ _ _, _, ha => by simp [atS] at ha

theorem grd_sound {all : List Oper} {o : Oper} {ts : List XV} {yes no : List XV → Prop} {E : Env} {a : Act} (hh : grd all o ts yes no) (hr : RelTs E ts a.tmps.toList) :
    (∃ ts', yes ts' ∧ RelTs E ts' a.tmps.toList ∧ Region.wanted o (yielded all.toArray a.tmps) = true) ∨ (∃ ts', no ts' ∧ RelTs E ts' a.tmps.toList ∧ Region.wanted o (yielded all.toArray a.tmps) = false) := by
  unfold grd at hh
  split at hh
  · rename_i hg
    exact .inl ⟨_, hh, hr, by simp [Region.wanted, hg]⟩
  · rename_i j want hg
    split at hh
    case h_1 => exact hh.elim
    rename_i d hd
    rw [wanted_of hg]
    have hv := hr.get d
    split at hh
    · rename_i e; rw [e] at hv
      exact .inl ⟨_, hh, hr, by rw [yielded_of hd (show _ = Value.bool true from hv)]; rfl⟩
    · rename_i e; rw [e] at hv
      exact .inl ⟨_, hh, hr, by rw [yielded_of hd (show _ = Value.bool false from hv)]; rfl⟩
    · rename_i e; rw [e] at hv
      exact .inr ⟨_, hh, hr, by rw [yielded_of hd (show _ = Value.bool true from hv)]; rfl⟩
    · rename_i e; rw [e] at hv
      exact .inr ⟨_, hh, hr, by rw [yielded_of hd (show _ = Value.bool false from hv)]; rfl⟩
    · rename_i e; rw [e] at hv
      obtain ⟨vs, hvs, hws⟩ := hv
      have : vs = #[] := by
        cases vs with
        | mk l => cases l with
          | nil => rfl
          | cons _ _ => exact hws.elim
      subst this
      exact .inr ⟨_, hh, hr, by rw [yielded_undef hd hvs]; rfl⟩
    · rename_i x e; rw [e] at hv
      have hv : _ = Value.bool x := hv
      cases x
      · have h1 := hh.2 rfl
        rw [setK_eq] at h1
        exact .inr ⟨_, h1, hr.set_self d (show RelC E .bf _ from hv), by rw [yielded_of hd hv]; rfl⟩
      · have h1 := hh.1 rfl
        rw [setK_eq] at h1
        exact .inl ⟨_, h1, hr.set_self d (show RelC E .bt _ from hv), by rw [yielded_of hd hv]; rfl⟩
    · rename_i x e; rw [e] at hv
      have hv : _ = Value.bool x := hv
      cases x
      · have h1 := hh.2 rfl
        rw [setK_eq] at h1
        exact .inl ⟨_, h1, hr.set_self d (show RelC E .bf _ from hv), by rw [yielded_of hd hv]; rfl⟩
      · have h1 := hh.1 rfl
        rw [setK_eq] at h1
        exact .inr ⟨_, h1, hr.set_self d (show RelC E .bt _ from hv), by rw [yielded_of hd hv]; rfl⟩
    · exact hh.elim

section
variable {C : Cx} (hT : TabOk C.P C.T) {w0 : Org} {F : Nat → Prop} {ds : List Deferred} {rd : Nat → Bool} {ws : World} {Old : Nat → Prop}

/-- The worlds of the statement: what is old and isn't written is as it was. -/
def Stand (ws : World) (Old : Nat → Prop) (W : World) : Prop := ws.heap.size ≤ W.heap.size ∧ ∀ b, Old b → W.heap[b]? = ws.heap[b]?

structure Mid (w0 : Org) (F : Nat → Prop) (rd : Nat → Bool) (ws : World) (Old : Nat → Prop) (n0 : Nat) (E : Env) (h : List It) (w : World) : Prop where
  hp : Heap w0 F E h w
  st : Stand ws Old w
  n : n0 ≤ h.length
  lt : ∀ b, Old b → b < ws.heap.size
  bs : ∀ b, E.bs.B b → Old b
  rdLt : ∀ k, rd k = true → k < n0
  old : ∀ (k : Nat) (x : It) (b : Nat), h[k]? = some x → rd k = true → Ow E k x b → Old b
  new : ∀ (k : Nat) (x : It) (b : Nat), h[k]? = some x → rd k = false → Ow E k x b → ¬ Old b

theorem Mid.same {n0 : Nat} {E : Env} {h : List It} {w W : World} (m : Mid w0 F rd ws Old n0 E h w) (hW : Stand ws Old W) : Same E h rd w W := by
  refine ⟨fun b hB => ?_, fun k x b hx hr hb => ?_⟩
  · have ho := m.bs b hB
    exact ⟨Nat.lt_of_lt_of_le (m.lt b ho) hW.1, (hW.2 b ho).trans ((m.st.2 b ho).symm.trans (m.hp.bs b hB).2)⟩
  · have ho := m.old k x b hx hr hb
    exact (hW.2 b ho).trans (m.st.2 b ho).symm

theorem Mid.next {n0 : Nat} {E E' : Env} {h h' : List It} {w w' : World} {t : Option Nat} (m : Mid w0 F rd ws Old n0 E h w) (hp' : Heap w0 F E' h' w') (hk : Keep E h t w w') (ha : After E h t w.heap.size E' h')
    (ht : ∀ k, t = some k → rd k = false) : Mid w0 F rd ws Old n0 E' h' w' := by
  have hsz := m.st.1
  refine ⟨hp', ⟨Nat.le_trans hsz hk.1, fun b ho => ?_⟩, Nat.le_trans m.n ha.n, m.lt, by rw [ha.bs]; exact m.bs, m.rdLt, ?_, ?_⟩
  · refine (hk.2 b (Nat.lt_of_lt_of_le (m.lt b ho) hsz) fun k x e hx hb => m.new k x b hx (ht k e) hb ho).trans (m.st.2 b ho)
  · intro k y b hy hr hb
    rcases ha.nw k y b hy hb with ⟨x, hx, hxb⟩ | ⟨_, h1 | h1⟩
    · exact m.old k x b hx hr hxb
    · rw [ht k h1] at hr; cases hr
    · have := m.rdLt k hr
      have := m.n
      omega
  · intro k y b hy hr hb ho
    rcases ha.nw k y b hy hb with ⟨x, hx, hxb⟩ | ⟨h1, _⟩
    · exact m.new k x b hx hr hxb ho
    · have := m.lt b ho
      omega

/-- .. of which no more is taken ahead. -/
structure MidG (w0 : Org) (F : Nat → Prop) (rd : Nat → Bool) (ws : World) (Old : Nat → Prop) (E : Env) (h : List It) (w : World) : Prop where
  hp : Heap w0 F E h w
  st : Stand ws Old w
  lt : ∀ b, Old b → b < ws.heap.size
  new : ∀ (k : Nat) (x : It) (b : Nat), h[k]? = some x → rd k = false → Ow E k x b → ¬ Old b
theorem Mid.g {n0 : Nat} {E : Env} {h : List It} {w : World} (m : Mid w0 F rd ws Old n0 E h w) : MidG w0 F rd ws Old E h w := ⟨m.hp, m.st, m.lt, m.new⟩
theorem MidG.next {E E' : Env} {h h' : List It} {w w' : World} (m : MidG w0 F rd ws Old E h w) (hp' : Heap w0 F E' h' w') (hk : w.heap.size ≤ w'.heap.size ∧ ∀ b, b < w.heap.size → (∀ (j : Nat) (x : It), rd j = false → h[j]? = some x → ¬ Ow E j x b) → w'.heap[b]? = w.heap[b]?)
    (hn : ∀ (k : Nat) (y : It) (b : Nat), h'[k]? = some y → rd k = false → Ow E' k y b → (∃ (j : Nat) (x : It), rd j = false ∧ h[j]? = some x ∧ Ow E j x b) ∨ w.heap.size ≤ b) : MidG w0 F rd ws Old E' h' w' := by
  have hsz := m.st.1
  refine ⟨hp', ⟨Nat.le_trans hsz hk.1, fun b ho => ?_⟩, m.lt, fun k y b hy hr hb ho => ?_⟩
  · exact (hk.2 b (Nat.lt_of_lt_of_le (m.lt b ho) hsz) fun j x hr hx hb => m.new j x b hx hr hb ho).trans (m.st.2 b ho)
  · rcases hn k y b hy hr hb with ⟨j, x, h1, h2, h3⟩ | h1
    · exact m.new j x b h2 h1 h3 ho
    · have := m.lt b ho
      omega
include hT in
theorem opF_sound {n0 : Nat} {o : Oper} {ts : List XV} {h : List It} {k : KS} {K : Act → World → Prop} {Q : Exit → Act → World → Prop} {E : Env} {a : Act} {w : World} (hh : opF C o ts h rd k) (hd : a.defers = ds) (hr : RelTs E ts a.tmps.toList)
    (m : Mid w0 F rd ws Old n0 E h w) (hK : ∀ ts' h' E' a' w', k ts' h' → a'.defers = ds → RelTs E' ts' a'.tmps.toList → Mid w0 F rd ws Old n0 E' h' w' → K a' w') : o.wp C.P a w K Q := by
  have hp := m.hp
  unfold opF at hh
  split at hh
  · rename_i d s t ho
    obtain ⟨it, ht, nx, u, w', x, ts', h', E', hnx, hrun, hk, hx, hr', hp', hkeep, haft⟩ := cpyX_sound hT ho hh hr hp
    rw [fin_eq] at hk
    have m' := m.next hp' hkeep haft (fun k e => by cases e; exact ht)
    unfold Oper.wp
    rw [hrun]
    rcases hnx with rfl | ⟨rfl, rfl⟩
    · exact hK _ _ E' _ _ hk (by cases hdst : o.dst <;> simp [Act.put, hd]) (put_rel (a := a) o.dst hr' hx) m'
    · exact hK _ _ E' _ _ hk (by cases hdst : o.dst <;> simp [Act.put, hd]) (put_rel (a := a) o.dst hr' hx) m'
  split at hh
  · unfold OpFX at hh
    obtain ⟨t, ht, nx, u, w', x, ts', h', E', hnx, hrun, hk, hx, hr', hp', hkeep, haft⟩ := hh w0 F E w a hr hp
    rw [fin_eq] at hk
    have m' := m.next hp' hkeep haft ht
    unfold Oper.wp
    rw [hrun]
    rcases hnx with rfl | ⟨rfl, rfl⟩
    · exact hK _ _ E' _ _ hk (by cases hdst : o.dst <;> simp [Act.put, hd]) (put_rel (a := a) o.dst hr' hx) m'
    · exact hK _ _ E' _ _ hk (by cases hdst : o.dst <;> simp [Act.put, hd]) (put_rel (a := a) o.dst hr' hx) m'
  split at hh
  · obtain ⟨x, u, hk, hx, hrun⟩ := valX_sound hT hh hr hp
    rw [fin_eq] at hk
    unfold Oper.wp
    rw [hrun w (same_refl hp _)]
    exact hK _ _ E _ _ hk (by cases hdst : o.dst <;> simp [Act.put, hd]) (put_rel o.dst hr hx) m
  · replace hh := when_iff hh
    obtain ⟨ht, hh⟩ := hh
    obtain ⟨nx, u, w', x, ts', h', E', hnx, hrun, hk, hx, hr', hp', hkeep, haft⟩ := effX_sound hT hh hr hp
    rw [fin_eq] at hk
    have m' := m.next hp' hkeep haft (fun k e => by rw [e] at ht; simpa using ht)
    unfold Oper.wp
    rw [hrun]
    rcases hnx with rfl | ⟨rfl, rfl⟩
    · exact hK _ _ E' _ _ hk (by cases hdst : o.dst <;> simp [Act.put, hd]) (put_rel (a := a) o.dst hr' hx) m'
    · exact hK _ _ E' _ _ hk (by cases hdst : o.dst <;> simp [Act.put, hd]) (put_rel (a := a) o.dst hr' hx) m'
  · unfold callGoF at hh
    split at hh
    case h_2 => exact hh.elim
    rename_i c hop
    obtain ⟨callee, args, argTypes⟩ := c
    simp only at hh
    split at hh
    case h_2 => exact hh.elim
    rename_i f
    have hf := opv_rel hr f
    have hargs := opvs_rel hr args.toList
    have key : ∀ (g : FuncId) (xs : List XV) (us : List Value), (lowTs xs fun xs => CallF C g xs ts h (fun x ts h => fin o.dst x ts h k)) → RelTs E xs us →
        (execOp a.eval o).run C.P w = (callFunc g us.toArray).run C.P w → o.wp C.P a w K Q := by
      intro g xs us hcall hxs hex
      obtain ⟨xs, hcall, hxs⟩ := lowTs_rel hcall hxs
      unfold CallF at hcall
      obtain ⟨⟨fn, hfn, hname, hbody⟩, hcall⟩ := hcall
      have hrun : (callFunc g us.toArray).run C.P w = .ok (.enter g us.toArray) w := by
        cases hb : fn.body with
        | none => rw [hb] at hbody; cases hbody
        | some b =>
          have hne : ¬ fn.name = "runtime.NumGoroutine" := by simpa using hname
          simp [callFunc, hfn, hne, hb]
      unfold Oper.wp
      rw [hex, hrun]
      simp only [Oper.upon]
      refine (hcall w0 F E w a.tmps.toList us hr hxs hp).mono fun e w' he => ?_
      obtain ⟨u, x, ts', h', E', rfl, hk, hx, hr', hp', hkeep, haft⟩ := he
      rw [fin_eq] at hk
      exact hK _ _ E' _ _ hk (by cases hdst : o.dst <;> simp [Act.put, hd]) (put_rel (a := a) o.dst hr' hx) (m.next hp' hkeep haft (fun k e => by cases e))
    unfold fnOf at hh
    split at hh
    · rename_i g fs cs e
      rw [e] at hf
      split at hh
      · rename_i e1 e2
        have hfs : fs = #[] := by cases fs; simpa using e1
        have hcs : cs = #[] := by cases cs; simpa using e2
        subst hfs; subst hcs
        have hv : a.eval f = .func (.func g) #[] #[] := hf.1
        refine key g _ _ hh hargs ?_
        unfold execOp
        rw [hop]
        have hm : Array.map a.eval args = (List.map a.eval args.toList).toArray := by rw [← Array.toList_map, Array.toArray_toList]
        simp [resolve, hv, Deferred.ofValue, invoke, hm]
      · exact hh.elim
    · rename_i g n caps e
      rw [e] at hf
      obtain ⟨vs, hv, hn, hc⟩ := hf
      refine key g _ _ hh (hargs.append (by have := capL_rel (E := E) (vs := vs) n 0 (caps := caps) (by omega) (fun j hj => hc j (by omega)); simpa using this)) ?_
      unfold execOp
      rw [hop]
      simp only [resolve, hv, Deferred.ofValue, invoke, Sem.run_bind, Sem.run_pure, Result.andThen_ok]
      have hm : Array.map a.eval args ++ vs = (List.map a.eval args.toList ++ vs.toList).toArray := by rw [← Array.toList_map, ← Array.toList_append, Array.toArray_toList]
      simp [hm]
    · exact hh.elim

include hT in
theorem opG_sound {o : Oper} {ts : List XV} {h : List It} {k : KS} {K : Act → World → Prop} {Q : Exit → Act → World → Prop} {E : Env} {a : Act} {w : World} (hh : opG C o ts h rd k) (hd : a.defers = ds) (hr : RelTs E ts a.tmps.toList)
    (m : MidG w0 F rd ws Old E h w) (hK : ∀ ts' h' E' a' w', k ts' h' → a'.defers = ds → RelTs E' ts' a'.tmps.toList → MidG w0 F rd ws Old E' h' w' → K a' w') : o.wp C.P a w K Q := by
  have hp := m.hp
  unfold opG at hh
  split at hh
  · exact hh.elim
  split at hh
  · obtain ⟨x, u, hk, hx, hrun⟩ := valX_sound hT hh hr hp
    rw [fin_eq] at hk
    unfold Oper.wp
    rw [hrun w (same_refl hp _)]
    exact hK _ _ E _ _ hk (by cases hdst : o.dst <;> simp [Act.put, hd]) (put_rel o.dst hr hx) m
  · exact hh.elim
  · split at hh
    case h_2 => exact hh.elim
    rename_i c hop
    obtain ⟨callee, args, argTypes⟩ := c
    simp only at hh
    split at hh
    case h_2 => exact hh.elim
    rename_i f
    have hf := opv_rel hr f
    have hargs := opvs_rel hr args.toList
    have key : ∀ (g : FuncId) (xs : List XV) (us : List Value), (lowTs xs fun xs => CallT C g xs ts h rd (fun x ts h => fin o.dst x ts h k)) → RelTs E xs us →
        (execOp a.eval o).run C.P w = (callFunc g us.toArray).run C.P w → o.wp C.P a w K Q := by
      intro g xs us hcall hxs hex
      obtain ⟨xs, hcall, hxs⟩ := lowTs_rel hcall hxs
      unfold CallT at hcall
      obtain ⟨⟨fn, hfn, hname, hbody⟩, hcall⟩ := hcall
      have hrun : (callFunc g us.toArray).run C.P w = .ok (.enter g us.toArray) w := by
        cases hb : fn.body with
        | none => rw [hb] at hbody; cases hbody
        | some b =>
          have hne : ¬ fn.name = "runtime.NumGoroutine" := by simpa using hname
          simp [callFunc, hfn, hne, hb]
      unfold Oper.wp
      rw [hex, hrun]
      simp only [Oper.upon]
      refine (hcall w0 F E w a.tmps.toList us hr hxs hp).mono fun e w' he => ?_
      obtain ⟨u, x, ts', h', E', rfl, hk, hx, hr', hp', hkeep, haft⟩ := he
      rw [fin_eq] at hk
      exact hK _ _ E' _ _ hk (by cases hdst : o.dst <;> simp [Act.put, hd]) (put_rel (a := a) o.dst hr' hx) (m.next hp' hkeep haft)
    unfold fnOf at hh
    split at hh
    · rename_i g fs cs e
      rw [e] at hf
      split at hh
      · rename_i e1 e2
        have hfs : fs = #[] := by cases fs; simpa using e1
        have hcs : cs = #[] := by cases cs; simpa using e2
        subst hfs; subst hcs
        have hv : a.eval f = .func (.func g) #[] #[] := hf.1
        refine key g _ _ hh hargs ?_
        unfold execOp
        rw [hop]
        have hm : Array.map a.eval args = (List.map a.eval args.toList).toArray := by rw [← Array.toList_map, Array.toArray_toList]
        simp [resolve, hv, Deferred.ofValue, invoke, hm]
      · exact hh.elim
    · rename_i g n caps e
      rw [e] at hf
      obtain ⟨vs, hv, hn, hc⟩ := hf
      refine key g _ _ hh (hargs.append (by have := capL_rel (E := E) (vs := vs) n 0 (caps := caps) (by omega) (fun j hj => hc j (by omega)); simpa using this)) ?_
      unfold execOp
      rw [hop]
      simp only [resolve, hv, Deferred.ofValue, invoke, Sem.run_bind, Sem.run_pure, Result.andThen_ok]
      have hm : Array.map a.eval args ++ vs = (List.map a.eval args.toList ++ vs.toList).toArray := by rw [← Array.toList_map, ← Array.toList_append, Array.toArray_toList]
      simp [hm]
    · exact hh.elim

include hT in
theorem goX_sound {all : List Oper} {k : KS} {Q : Exit → Act → World → Prop} (hK : ∀ ts' h' E' a' w', k ts' h' → a'.defers = ds → RelTs E' ts' a'.tmps.toList → Heap w0 F E' h' w' → Q .normal a' w') :
    ∀ (is : List Nat) (n : Nat) (listed : Array Bool) (ts : List XV) (h : List It) (E : Env) (a : Act) (w : World), goX C all rd k is ts h → okG all.toArray n listed is = true → a.defers = ds → RelTs E ts a.tmps.toList → MidG w0 F rd ws Old E h w →
      wpAnyH C.P .any all.toArray Q (Stand ws Old) n listed a w
  | [], n, listed, ts, h, E, a, w, hh, hB, hd, hr, m => by
    have hB : (Region.ready .any all.toArray listed).isEmpty = true := by cases n <;> simpa [okG] using hB
    exact wpAnyH_done (by simpa using hB) (hK _ _ _ _ _ hh hd hr m.hp) n
  | i :: is, 0, listed, ts, h, E, a, w, hh, hB, hd, hr, m => by simp [okG] at hB
  | i :: is, n + 1, listed, ts, h, E, a, w, hh, hB, hd, hr, m => by
    simp only [okG, Bool.and_eq_true, beq_iff_eq] at hB
    refine wpAnyH_all hB.1 (by simp) fun j hj => ?_
    obtain rfl : j = i := by simpa using hj
    unfold goX at hh
    split at hh
    case h_2 => exact hh.elim
    rename_i o ho
    rw [opAt_eq] at ho
    have ho : all.toArray[j]? = some o := by simpa using ho
    unfold wpOp
    simp only [ho]
    rcases grd_sound hh hr with ⟨ts', hy, hr', hw⟩ | ⟨ts', hn, hr', hw⟩
    · rw [if_pos hw]
      exact .inl (opG_sound hT hy hd hr' m fun ts' h' E' a' w' hk hd' hr' m' => ⟨m'.st, goX_sound hK is n _ ts' h' E' a' w' hk hB.2 hd' hr' m'⟩)
    · rw [if_neg (by rw [hw]; simp)]
      rw [fin_eq] at hn
      exact ⟨m.st, goX_sound hK is n _ _ _ E _ _ hn hB.2 (by cases hdst : o.dst <;> simp [Act.put, hd]) (put_rel o.dst hr' (undef_rel E)) m⟩

include hT in
theorem stepX_sound {n0 : Nat} {all : List Oper} {i : Nat} {ts : List XV} {h : List It} {k : KS} {K : Act → World → Prop} {Q : Exit → Act → World → Prop} {E : Env} {a : Act} {w : World} (hh : stepX C all rd i ts h k) (hd : a.defers = ds) (hr : RelTs E ts a.tmps.toList)
    (m : Mid w0 F rd ws Old n0 E h w) (hK : ∀ ts' h' E' a' w', k ts' h' → a'.defers = ds → RelTs E' ts' a'.tmps.toList → Mid w0 F rd ws Old n0 E' h' w' → K a' w') : wpOp C.P all.toArray Q i K a w := by
  unfold stepX at hh
  split at hh
  case h_2 => exact hh.elim
  rename_i o ho
  rw [opAt_eq] at ho
  have ho : all.toArray[i]? = some o := by simpa using ho
  unfold wpOp
  simp only [ho]
  rcases grd_sound hh hr with ⟨ts', hy, hr', hw⟩ | ⟨ts', hn, hr', hw⟩
  · rw [if_pos hw]
    exact .inl (opF_sound hT hy hd hr' m hK)
  · rw [if_neg (by rw [hw]; simp)]
    rw [fin_eq] at hn
    exact hK _ _ E _ _ hn (by cases hdst : o.dst <;> simp [Act.put, hd]) (put_rel o.dst hr' (undef_rel E)) m

include hT in
theorem anyX_sound {n0 : Nat} {all : List Oper} (hs : Region.noSelect all.toArray = true) {k : KS} {Q : Exit → Act → World → Prop} (hQ : ∀ c a w, ¬ Q (.panic c) a w)
    (hK : ∀ ts' h' E' a' w', k ts' h' → a'.defers = ds → RelTs E' ts' a'.tmps.toList → Heap w0 F E' h' w' → Q .normal a' w') :
    ∀ (s : Sch) (n : Nat) (listed : Array Bool) (ts : List XV) (h : List It) (E : Env) (a : Act) (w : World), anyX C all rd k s ts h → okS all.toArray n listed s = true → a.defers = ds → RelTs E ts a.tmps.toList → Mid w0 F rd ws Old n0 E h w →
      wpAnyH C.P .any all.toArray Q (Stand ws Old) n listed a w
  | .done, n, listed, ts, h, E, a, w, hh, hB, hd, hr, m => by
    have hB : (Region.ready .any all.toArray listed).isEmpty = true := by cases n <;> simpa [okS] using hB
    exact wpAnyH_done (by simpa using hB) (hK _ _ _ _ _ hh hd hr m.hp) n
  | .go is, n, listed, ts, h, E, a, w, hh, hB, hd, hr, m => by
    have hB : okG all.toArray n listed is = true := by cases n <;> simpa [okS] using hB
    unfold anyX at hh
    exact goX_sound hT hK is n listed ts h E a w hh hB hd hr m.g
  | .take i s, 0, listed, ts, h, E, a, w, hh, hB, hd, hr, m => by simp [okS] at hB
  | .take i s, n + 1, listed, ts, h, E, a, w, hh, hB, hd, hr, m => by
    simp only [okS, Bool.and_eq_true] at hB
    unfold anyX at hh
    split at hh
    case h_2 => exact hh.elim
    rename_i o ho
    rw [opAt_eq] at ho
    have ho : all.toArray[i]? = some o := by simpa using ho
    rcases grd_sound hh hr with ⟨ts', hy, hr', hw⟩ | ⟨ts', hn, hr', hw⟩
    · split at hy
      · unfold OpTX at hy
        obtain ⟨x, u, hk, hx, hrun⟩ := hy w0 F E w a hr' m.hp
        rw [finQ_eq] at hk
        exact wpAnyH_take ho hs hB.1.1 hB.1.2 (fun c a w hq => (hQ _ _ _ hq).elim) (.inl ⟨hw, fun W hW => hrun W (m.same hW)⟩) m.st
          (anyX_sound hs hQ hK s n _ _ h E _ w hk hB.2 (by cases hdst : o.dst <;> simp [Act.put, hd]) (put_rel o.dst hr' hx) m)
      split at hy
      · obtain ⟨x, u, hk, hx, hrun⟩ := valX_sound hT hy hr' m.hp
        rw [finQ_eq] at hk
        exact wpAnyH_take ho hs hB.1.1 hB.1.2 (fun c a w hq => (hQ _ _ _ hq).elim) (.inl ⟨hw, fun W hW => hrun W (m.same hW)⟩) m.st
          (anyX_sound hs hQ hK s n _ _ h E _ w hk hB.2 (by cases hdst : o.dst <;> simp [Act.put, hd]) (put_rel o.dst hr' hx) m)
      · exact hy.elim
    · rw [finQ_eq] at hn
      exact wpAnyH_take ho hs hB.1.1 hB.1.2 (fun c a w hq => (hQ _ _ _ hq).elim) (.inr ⟨hw, rfl⟩) m.st
        (anyX_sound hs hQ hK s n _ _ h E _ w hn hB.2 (by cases hdst : o.dst <;> simp [Act.put, hd]) (put_rel o.dst hr' (undef_rel E)) m)
  | .one i s, 0, listed, ts, h, E, a, w, hh, hB, hd, hr, m => by simp [okS] at hB
  | .one i s, n + 1, listed, ts, h, E, a, w, hh, hB, hd, hr, m => by
    simp only [okS, Bool.and_eq_true, beq_iff_eq] at hB
    refine wpAnyH_all hB.1 (by simp) fun j hj => ?_
    obtain rfl : j = i := by simpa using hj
    exact stepX_sound hT hh hd hr m fun ts' h' E' a' w' hk hd' hr' m' => ⟨m'.st, anyX_sound hs hQ hK s n _ ts' h' E' a' w' hk hB.2 hd' hr' m'⟩
  | .two i j s s', 0, listed, ts, h, E, a, w, hh, hB, hd, hr, m => by simp [okS] at hB
  | .two i j s s', n + 1, listed, ts, h, E, a, w, hh, hB, hd, hr, m => by
    simp only [okS, Bool.and_eq_true, beq_iff_eq] at hB
    refine wpAnyH_all hB.1.1 (by simp) fun q hq => ?_
    have hq : q = i ∨ q = j := by simpa using hq
    rcases hq with rfl | rfl
    · exact stepX_sound hT hh.1 hd hr m fun ts' h' E' a' w' hk hd' hr' m' => ⟨m'.st, anyX_sound hs hQ hK s n _ ts' h' E' a' w' hk hB.1.2 hd' hr' m'⟩
    · exact stepX_sound hT hh.2 hd hr m fun ts' h' E' a' w' hk hd' hr' m' => ⟨m'.st, anyX_sound hs hQ hK s' n _ ts' h' E' a' w' hk hB.2 hd' hr' m'⟩
  | .alt i s r, 0, listed, ts, h, E, a, w, hh, hB, hd, hr, m => by simp [okS] at hB
  | .alt i s r, n + 1, listed, ts, h, E, a, w, hh, hB, hd, hr, m => by
    unfold okS at hB
    rw [Bool.and_eq_true, List.all_eq_true, beq_iff_eq] at hB
    refine wpAnyH_all hB.1 (by simp [headsS]) fun q hq => ?_
    have h1 := hB.2 q hq
    split at h1
    · rename_i s' hs'
      exact stepX_sound hT (anyX_at hh hs') hd hr m fun ts' h' E' a' w' hk hd' hr' m' => ⟨m'.st, anyX_sound hs hQ hK s' n _ ts' h' E' a' w' hk h1 hd' hr' m'⟩
    · cases h1
termination_by _ n => n

def memN (k : Nat) : List Nat → Bool
  | [] => false
  | a :: l => (match Nat.beq k a with | true => true | false => memN k l)
theorem memN_iff {k : Nat} : ∀ {l : List Nat}, memN k l = true ↔ k ∈ l
  | [] => by simp [memN]
  | a :: l => by
    unfold memN
    split
    · rename_i hb
      have := Nat.eq_of_beq_eq_true hb
      simp [this]
    · rename_i hb
      have := beq_ne hb
      rw [memN_iff (l := l)]
      simp [this]
/-- What stood when the statement began, but for what it writes. -/
def rdOf (n0 : Nat) (tl : List Nat) (k : Nat) : Bool := (match Nat.blt k n0 with | true => (match memN k tl with | true => false | false => true) | false => false)

include hT in
/-- A statement whose order is drawn, by a plan; 'tl': the items that it writes. -/
theorem drawx_plan {id : Nat} {ops : List Oper} {k : KS} {ts : List XV} {h : List It} (tl : List Nat) (s : Sch) (hm : C.P.follows .mixedOrders = true) (hs : Region.noSelect ops.toArray = true)
    (hB : okS ops.toArray ops.toArray.size (Array.replicate ops.toArray.size false) s = true) (hh : anyX C ops (rdOf h.length tl) k s ts h) (hnd : C.rd = none ∨ noDefer ops.toArray = true := by first | exact .inl rfl | exact .inr (by kernel_rfl)) : DrawX C id ops k ts h := by
  unfold DrawX
  intro w00 F0 Q' a w hK hc
  obtain ⟨w0, F, hsub, hd, E, hr, hp⟩ := hc
  let ws : World := { w with drawn := w.drawn + 1 }
  have hpw : Heap w0 F E h ws := hp.stays ⟨rfl, rfl, rfl, Nat.le_refl _, fun _ _ _ => rfl⟩
  let Old : Nat → Prop := fun b => b < ws.heap.size ∧ ∀ (j : Nat) (x : It), j ∈ tl → h[j]? = some x → ¬ Ow E j x b
  have hrd : ∀ k, rdOf h.length tl k = true → k < h.length ∧ k ∉ tl := by
    intro k hk
    unfold rdOf at hk
    split at hk
    · rename_i h1
      split at hk
      · cases hk
      · rename_i h2
        exact ⟨blt_lt h1, fun hmem => by rw [memN_iff.2 hmem] at h2; cases h2⟩
    · cases hk
  have hnrd : ∀ k, k < h.length → rdOf h.length tl k = false → k ∈ tl := by
    intro k hk hf
    unfold rdOf at hf
    split at hf
    · split at hf
      · rename_i h2; exact memN_iff.1 h2
      · cases hf
    · rename_i h1
      have : Nat.blt k h.length = true := by simp [Nat.blt, Nat.ble_eq]; omega
      rw [this] at h1; cases h1
  have m : Mid w0 F (rdOf h.length tl) ws Old h.length E h ws := by
    refine ⟨hpw, ⟨Nat.le_refl _, fun _ _ => rfl⟩, Nat.le_refl _, fun b ho => ho.1, ?_, fun k hk => (hrd k hk).1, ?_, ?_⟩
    · intro b hb
      exact ⟨(hpw.bs b hb).1, fun j x _ hx hxb => (hpw.own j x b hx hxb).2.1 hb⟩
    · intro k x b hx hk hb
      refine ⟨(hpw.own k x b hx hb).1, fun j y hj hy hyb => ?_⟩
      have := hpw.sep j k y x b hy hx hyb hb
      subst this
      exact (hrd _ hk).2 hj
    · intro k x b hx hk hb ho
      exact ho.2 k x (hnrd k (List.getElem?_eq_some_iff.1 hx).1 hk) hx hb
  refine fen_drawn (Q := Q' .normal) hnd hm (wpAny_of_held (S := Stand ws Old) _ _ _ _ ?_) (fun _ _ h => h)
  exact anyX_sound (w0 := w0) (F := F) (ds := a.defers) hT hs (Q := fun e a w => e = .normal ∧ Q' .normal a w) (fun c a w hq => by cases hq.1) (fun ts' h' E' a' w' hk hd' hr' hp' => ⟨rfl, hK _ _ _ _ hk ⟨w0, F, hsub, by rw [hd']; exact hd, E', hr', hp'⟩⟩) s _ _ ts h E a ws hh hB rfl hr m
end

/-- A call by contract there. -/
theorem callf_lend {C : Cx} {f : FuncId} {args : List XV} {ts : List XV} {h : List It} {k : KE} {args' : List XV} {v : XV} (hf : Fn C.P f args' (Tells v)) (hl : args.map (lendV h) = args') (hs : stXs args' = true) (hv : flatV v = true) (hk : k v ts h) : CallF C f args ts h k := by
  unfold CallF
  refine ⟨hf.ok, fun w0 F E w vs us hr hargs hp => ?_⟩
  refine (hf.run (E.lent h w).bs w us hp.lent_ok (stXs_rel (E := E.lent h w) (E' := ⟨(E.lent h w).bs, 0, fun _ => 0, fun _ => undef, fun _ _ => False⟩) rfl hs (hl ▸ lendTs_rel hp hargs))).mono fun e w' ⟨u, x, h', E', he, hR, hx, hp'⟩ => ?_
  exact ⟨u, v, ts, h, E, he, hk, flatV_rel hv (entV_rel hR hx), hr, hp.stays hp'.fr, ⟨hp'.fr.size, fun b hb _ => hp'.fr.block b hb (fun x => x)⟩, ⟨rfl, Nat.le_refl _, fun k y b hy hb => .inl ⟨y, hy, hb⟩⟩⟩
end Go.Eng

/- The engine, part U: a statement whose order is drawn and whose operations each tell one thing, whatever the order; rows laid aside as a function returns; nil slices as own rows. Nothing of any program is proved here. -/
namespace Go.Eng
open Go Go.RowKit
set_option linter.unusedSimpArgs false
set_option linter.unusedVariables false

/-! ### answers laid aside -/
def lendW (h : List It) : XW → XW
  | .c x => .c (lendC h x)
  | .a l => .a (l.map (lendC h))
def lendX (h : List It) : XV → XV
  | .c x => .c (lendC h x)
  | .a l => .a (l.map (lendC h))
  | .t l => .t (l.map (lendW h))
  | .un => .un
/-- The answer says at least this, once all that the function owns is laid aside. -/
def TellsZ (v : XV) : XV → List It → Prop := fun x h => entV (lendX h x) v

section
variable {E : Env} {h : List It} {w0 : Org} {w : World} {F : Nat → Prop}
theorem lendL_rel (hp : Heap w0 F E h w) : ∀ {l : List XC} {vs : List Value}, RelL E l vs → RelL (E.lent h w) (l.map (lendC h)) vs
  | [], [], _ => trivial
  | _ :: _, _ :: _, hr => ⟨lendC_rel hp hr.1, lendL_rel hp hr.2⟩
  | [], _ :: _, hr => hr.elim
  | _ :: _, [], hr => hr.elim
theorem lendWs_rel (hp : Heap w0 F E h w) : ∀ {l : List XW} {vs : List Value}, RelWs E l vs → RelWs (E.lent h w) (l.map (lendW h)) vs
  | [], [], _ => trivial
  | .c _ :: _, _ :: _, hr => ⟨lendC_rel hp hr.1, lendWs_rel hp hr.2⟩
  | .a _ :: _, _ :: _, hr => ⟨by obtain ⟨us, e, hl⟩ := hr.1; exact ⟨us, e, lendL_rel hp hl⟩, lendWs_rel hp hr.2⟩
  | [], _ :: _, hr => hr.elim
  | .c _ :: _, [], hr => hr.elim
  | .a _ :: _, [], hr => hr.elim
theorem lendX_rel (hp : Heap w0 F E h w) {x : XV} {v : Value} (hr : RelV E x v) : RelV (E.lent h w) (lendX h x) v := by
  cases x with
  | un => trivial
  | c x => exact lendC_rel hp hr
  | a l => obtain ⟨vs, rfl, hl⟩ := hr; exact ⟨vs, rfl, lendL_rel hp hl⟩
  | t l => obtain ⟨vs, rfl, hl⟩ := hr; exact ⟨vs, rfl, lendWs_rel hp hl⟩

/-- All is laid aside. -/
theorem Heap.shut (hp : Heap w0 F E h w) : Heap w0 F { E.lent h w with n := 0 } [] w := by
  have hle : EnvLe E (E.lent h w) := hp.le_more
  refine ⟨hp.lent_ok, hp.le.trans hle.bs, ?_, rfl, fun k x hx => by simp at hx, fun k x b hx => by simp at hx, fun j k x y b hx => by simp at hx, hp.fr⟩
  rintro b (hb | ⟨k, x, hx, hb⟩)
  · exact hp.nb b hb
  · exact .inr (hp.own k x b hx hb).2.2
end

/-- A function that tells this once all that it made is laid aside. -/
theorem Fn.shut {P : Program} {f : FuncId} {xs : List XV} {v : XV} (hv : stX v) (hf : Fn P f xs (TellsZ v)) : Fn P f xs (Tells v) :=
  ⟨hf.ok, fun bs w us hbs hr => (hf.run bs w us hbs hr).mono fun e w' ⟨u, x, h', E', he, hR, hx, hp⟩ =>
    ⟨u, v, [], { E'.lent h' w' with n := 0 }, he, by
      unfold Tells
      exact entV_refl v, RelV.ofSt (E := E'.lent h' w') (E' := { E'.lent h' w' with n := 0 }) (fun b hb => ⟨hb, rfl⟩) hv (entV_rel hR (lendX_rel hp hx)), hp.shut⟩⟩

/-- .. from its code. -/
theorem Fn.ofZ {P : Program} {T : Tab} (hT : TabOk P T) {f : FuncId} {fn : Func} (hf : P.funcs[f]? = some fn) (hb : fn.body.isSome = true) (hn : (fn.name == "runtime.NumGoroutine") = false) {xs : List XV} {v : XV} (hv : stX v)
    (hh : ∀ w0 : Org, fnX ⟨P, T, [], none⟩ fn xs [] (TellsZ v)) : Fn P f xs (Tells v) :=
  (Fn.of hT hf hb hn hh).shut hv
theorem Fn.ofZJ {P : Program} {T : Tab} (hT : TabOk P T) (js : List Nat) {f : FuncId} {fn : Func} (hf : P.funcs[f]? = some fn) (hb : fn.body.isSome = true) (hn : (fn.name == "runtime.NumGoroutine") = false) {xs : List XV} {v : XV} (hv : stX v)
    (hh : ∀ w0 : Org, fnX ⟨P, T, js, none⟩ fn xs [] (TellsZ v)) : Fn P f xs (Tells v) :=
  (Fn.ofJ hT js hf hb hn hh).shut hv

/-! ### nil slices as own rows -/
section
variable {C : Cx}
theorem cfg_nil {w0 : Org} {F : Nat → Prop} {ts : List XV} {h : List It} {a : Act} {w : World} (j e z : Nat) (hg : get ts j = .c (.v (.slice none 0 0))) (hc : Cfg w0 F ts h a w) :
    Cfg w0 F (ts.set j (.c (.ow h.length))) (h ++ [.row e z []]) a w := by
  obtain ⟨w1, F1, hsub, hd, E, hr, hp⟩ := hc
  have hv := hr.get j
  rw [hg] at hv
  have hv : a.tmps.toList.getD j undef = .slice none 0 0 := hv.1
  have hle := Env.push_le E 0 (.slice none 0 0)
  refine ⟨w1, F1, hsub, hd, E.push 0 (.slice none 0 0), ?_, ?_⟩
  · refine RelTs.set_self j (hr.mono hle) ?_
    rw [hv]
    exact ⟨by simp [Env.push, hp.n], by simp [Env.push, hp.n], rfl⟩
  · refine hp.push (Fr.refl _ _) ⟨[], by simpa [Env.push] using World.ownsRow_nil w 0 e z, trivial, by simp, by simp⟩ (fun c hc => ?_)
    simp [Ow, Env.push, Value.ownBlock] at hc
theorem loopx_cfg {b : Code} {Q : KQ} {ts ts' : List XV} {h h' : List It} (hc : ∀ w0 F a w, Cfg w0 F ts h a w → Cfg w0 F ts' h' a w) (hh : LoopX C b Q ts' h') : LoopX C b Q ts h := by
  unfold LoopX at *
  exact fun w0 F Q' a w hQ hcfg => hh w0 F Q' a w hQ (hc w0 F a w hcfg)
theorem scopex_cfg {b : Code} {Q : KQ} {ts ts' : List XV} {h h' : List It} (hc : ∀ w0 F a w, Cfg w0 F ts h a w → Cfg w0 F ts' h' a w) (hh : ScopeX C b Q ts' h') : ScopeX C b Q ts h := by
  unfold ScopeX at *
  exact fun w0 F Q' a w hQ hcfg => hh w0 F Q' a w hQ (hc w0 F a w hcfg)
/-- A nil slice in slot j is an own row from here on. -/
theorem loopx_nil {b : Code} {Q : KQ} {ts : List XV} {h : List It} (j e z : Nat) (hg : get ts j = .c (.v (.slice none 0 0))) (hh : lenK h fun n => setK ts j (.c (.ow n)) fun ts => snocH h (.row e z []) fun h => LoopX C b Q ts h) : LoopX C b Q ts h := by
  rw [lenK_eq, setK_eq, snocH_eq] at hh
  exact loopx_cfg (fun w0 F a w => cfg_nil j e z hg) hh
theorem scopex_nil {b : Code} {Q : KQ} {ts : List XV} {h : List It} (j e z : Nat) (hg : get ts j = .c (.v (.slice none 0 0))) (hh : lenK h fun n => setK ts j (.c (.ow n)) fun ts => snocH h (.row e z []) fun h => ScopeX C b Q ts h) : ScopeX C b Q ts h := by
  rw [lenK_eq, setK_eq, snocH_eq] at hh
  exact scopex_cfg (fun w0 F a w => cfg_nil j e z hg) hh
end
end Go.Eng

/- The engine, part Det: what an operation that leaves the world alone tells is one thing. Nothing of any program is proved here. -/
namespace Go.Eng
open Go Go.RowKit
set_option linter.unusedVariables false
set_option linter.unusedSimpArgs false
theorem when_eq {b : Bool} {p : Prop} : when b p = (b = true ∧ p) := by cases b <;> simp [when]
theorem kIf_eq {a b : IntKind} {p : Prop} : kIf a b p = (a = b ∧ p) := by
  apply propext; constructor
  · exact kIf_iff
  · rintro ⟨rfl, h⟩; cases a <;> exact h
theorem notZero_eq {l : Bool} {b : Int} {p : Prop} : notZero l b p = (b ≠ 0 ∧ p) := by
  apply propext; constructor
  · exact notZero_iff
  · rintro ⟨hb, h⟩
    cases l with
    | false => exact ⟨hb, h⟩
    | true =>
      match b, hb with
      | .ofNat 0, hb => exact absurd rfl hb
      | .ofNat (_ + 1), _ => exact h
      | .negSucc _, _ => exact h
theorem notNeg_eq {l : Bool} {b : Int} {p : Prop} : notNeg l b p = (0 ≤ b ∧ p) := by
  apply propext; constructor
  · exact notNeg_iff
  · rintro ⟨hb, h⟩
    cases l with
    | false => exact ⟨hb, h⟩
    | true =>
      match b, hb with
      | .ofNat _, _ => exact h
      | .negSucc n, hb => exact absurd hb (by omega)
theorem inside_eq {l : Bool} {i : Int} {n : Nat} {p : Prop} : inside l i n p = ((0 ≤ i ∧ i < (n : Int)) ∧ p) := by
  apply propext; constructor
  · exact inside_iff
  · rintro ⟨hb, h⟩
    cases l with
    | false => exact ⟨hb, h⟩
    | true =>
      match i, hb with
      | .ofNat j, hb =>
        have : Nat.blt j n = true := by
          have h2 : (Int.ofNat j) < (n : Int) := hb.2
          have : j < n := by simpa using h2
          simp only [Nat.blt, Nat.ble_eq]; omega
        simp only [inside, when_eq]; exact ⟨this, h⟩
      | .negSucc n, hb => exact absurd hb.1 (by omega)
theorem upto_eq {l : Bool} {i : Int} {n : Nat} {p : Prop} : upto l i n p = ((0 ≤ i ∧ i ≤ (n : Int)) ∧ p) := by
  apply propext; constructor
  · exact upto_iff
  · rintro ⟨hb, h⟩
    cases l with
    | false => exact ⟨hb, h⟩
    | true =>
      match i, hb with
      | .ofNat j, hb =>
        have : Nat.ble j n = true := by
          have h2 : (Int.ofNat j) ≤ (n : Int) := hb.2
          have : j ≤ n := by simpa using h2
          simpa [Nat.ble_eq] using this
        simp only [upto, when_eq]; exact ⟨this, h⟩
      | .negSucc n, hb => exact absurd hb.1 (by omega)
theorem cutK_eq {l : List XC} {off n : Nat} {k : List XC → Prop} : cutK l off n k = (((l.drop off).take n).length = n ∧ k ((l.drop off).take n)) := by
  unfold cutK; rw [forceL_eq, when_eq]
  apply propext; constructor
  · rintro ⟨h1, h2⟩; exact ⟨Nat.eq_of_beq_eq_true h1, h2⟩
  · rintro ⟨h1, h2⟩; exact ⟨by rw [h1]; simp, h2⟩

/-- One answer. -/
def Det {α : Type} (F : (α → Prop) → Prop) : Prop := ∀ k, F k → ∃ x, k x ∧ ∀ k' : α → Prop, k' x → F k'
theorem Det.ret {α : Type} (x : α) : Det (fun k : α → Prop => k x) := fun k h => ⟨x, h, fun _ h => h⟩
theorem Det.no {α : Type} : Det (fun _ : α → Prop => False) := fun k h => h.elim
theorem Det.and {α : Type} {p : Prop} {F : (α → Prop) → Prop} (h : Det F) : Det (fun k => p ∧ F k) := fun k ⟨hp, hF⟩ => let ⟨x, hk, hx⟩ := h k hF; ⟨x, hk, fun k' h' => ⟨hp, hx k' h'⟩⟩
theorem Det.ex {α β : Type} {F : β → (α → Prop) → Prop} (h : ∀ b, Det (F b)) : Det (fun k => ∃ b, F b k) := fun k ⟨b, hF⟩ => let ⟨x, hk, hx⟩ := h b k hF; ⟨x, hk, fun k' h' => ⟨b, hx k' h'⟩⟩
theorem Det.or {α : Type} {F G : (α → Prop) → Prop} (h : Det F) (h' : Det G) : Det (fun k => F k ∨ G k) := fun k hk => by
  rcases hk with hk | hk
  · obtain ⟨x, h1, h2⟩ := h k hk; exact ⟨x, h1, fun k' hk' => .inl (h2 k' hk')⟩
  · obtain ⟨x, h1, h2⟩ := h' k hk; exact ⟨x, h1, fun k' hk' => .inr (h2 k' hk')⟩
theorem Det.map {α β : Type} {F : (α → Prop) → Prop} (g : α → β) (h : Det F) : Det (fun k : β → Prop => F fun x => k (g x)) := fun k hF => let ⟨x, hk, hx⟩ := h _ hF; ⟨g x, hk, fun k' h' => hx _ h'⟩
theorem Det.bind {α β : Type} {F : (α → Prop) → Prop} {G : α → (β → Prop) → Prop} (h : Det F) (hG : ∀ x, Det (G x)) : Det (fun k : β → Prop => F fun x => G x k) := fun k hF =>
  let ⟨x, hk, hx⟩ := h _ hF
  let ⟨y, hk', hy⟩ := hG x k hk
  ⟨y, hk', fun k' h' => hx _ (hy k' h')⟩
theorem Det.two {α : Type} {c : Bool} {F G : (α → Prop) → Prop} (h : Det F) (h' : Det G) : Det (fun k => (c = true → F k) ∧ (c = false → G k)) := fun k hk => by
  cases c
  · obtain ⟨x, h1, h2⟩ := h' k (hk.2 rfl); exact ⟨x, h1, fun k' hk' => And.intro (fun e => absurd e (by simp)) (fun _ => h2 k' hk')⟩
  · obtain ⟨x, h1, h2⟩ := h k (hk.1 rfl); exact ⟨x, h1, fun k' hk' => And.intro (fun _ => h2 k' hk') (fun e => absurd e (by simp))⟩
theorem mkX_det {agg : Bool} {l : List XC} : Det (mkX agg l) := by
  cases agg
  · match l with
    | [] => exact Det.no
    | [x] => exact Det.ret _
    | _ :: _ :: _ => exact Det.no
  · exact Det.ret _
theorem fieldX_det {T : Tab} {s : TypeId} {x : XV} {f : Nat} : Det (fieldX T s x f) := by
  unfold fieldX
  simp only [cutK_eq]
  cases T s with
  | none => exact Det.no
  | some ti =>
    obtain ⟨_, _, _, _, kd, _⟩ := ti
    cases kd <;> try exact Det.no
    rename_i fs
    dsimp only
    cases fs[f]? with
    | none => exact Det.no
    | some p =>
      dsimp only
      cases T p.2 with
      | none => exact Det.no
      | some fi => cases x <;> first | exact Det.no | exact Det.and mkX_det
theorem indexX_det {T : Tab} {t : TypeId} {x y : XV} : Det (indexX T t x y) := by
  unfold indexX
  simp only [cutK_eq, inside_eq]
  cases y <;> try exact Det.no
  dsimp only
  cases asI _ with
  | none => exact Det.no
  | some p =>
    obtain ⟨l, _, i⟩ := p
    dsimp only
    cases T t with
    | none => exact Det.no
    | some ti =>
      obtain ⟨_, _, _, _, kd, _⟩ := ti
      cases kd <;> try exact Det.no
      · cases x <;> try exact Det.no
        rename_i c
        cases c <;> try exact Det.no
        rename_i v
        cases v <;> first | exact Det.no | exact Det.and (Det.ret _)
      · rename_i e
        cases x <;> try exact Det.no
        cases he : T e with
        | none => simp only [he]; exact Det.no
        | some ei => simp only [he]; exact Det.and (Det.and mkX_det)
theorem extractX_det {x : XV} {i : Nat} : Det (extractX x i) := by
  unfold extractX
  cases x <;> try exact Det.no
  rename_i l
  dsimp only
  cases l[i]? with
  | none => exact Det.no
  | some w => cases w <;> exact Det.ret _
theorem eqC_det {n : Nat} {x y : XC} {k : Bool → Bool → Prop} (h : eqC n x y k) : ∃ l b, k l b ∧ ∀ k' : Bool → Bool → Prop, k' l b → eqC n x y k' := by
  unfold eqC at *
  split at h
  · split at h
    · simp only [kIf_eq] at *; exact ⟨_, _, h.2, fun k' h' => ⟨h.1, h'⟩⟩
    · exact h.elim
  · split at h
    · exact ⟨_, _, h, fun k' h' => h'⟩
    · exact h.elim
  · split at h
    · exact ⟨_, _, h, fun k' h' => h'⟩
    · exact h.elim
  · exact h.elim
theorem eqL_det : ∀ {ns : List Nat} {xs ys : List XC}, Det (eqL ns xs ys)
  | [], [], [], k, h => ⟨_, h, fun _ h => h⟩
  | [n], [x], [y], k, h => by
    obtain ⟨l, b, h1, h2⟩ := eqC_det (show eqC n x y fun _ b => k b from h)
    exact ⟨b, h1, fun k' h' => h2 _ h'⟩
  | n :: m :: ns, x :: xs, y :: ys, k, h => by
    obtain ⟨l, b, h1, h2⟩ := eqC_det (show eqC n x y fun l b => _ from h)
    cases l <;> cases b <;> (obtain ⟨r, h3, h4⟩ := eqL_det _ h1; exact ⟨_, h3, fun k' h' => h2 _ (h4 _ h')⟩)
  | [n], x :: x' :: xs, y :: ys, k, h => by
    obtain ⟨l, b, h1, h2⟩ := eqC_det (show eqC n x y fun l b => _ from h)
    exfalso; revert h1; cases l <;> cases b <;> simp [eqL]
  | [n], [x], y :: y' :: ys, k, h => by
    obtain ⟨l, b, h1, h2⟩ := eqC_det (show eqC n x y fun l b => _ from h)
    exfalso; revert h1; cases l <;> cases b <;> simp [eqL]
  | [], [], _ :: _, k, h => by simp [eqL] at h
  | [], _ :: _, _, k, h => by simp [eqL] at h
  | n :: ns, [], _, k, h => by cases ns <;> simp [eqL] at h
  | n :: ns, _ :: _, [], k, h => by cases ns <;> simp [eqL] at h
theorem intBin_det {op : BinOp} {kd : IntKind} {a b : Int} {l : Bool} : Det (intBin op kd a b l) := by
  unfold intBin
  cases op <;> first | exact Det.ret _ | exact Det.no
theorem binC_det {op : BinOp} {x y : XC} : Det (binC op x y) := by
  unfold binC
  simp only [kIf_eq, notZero_eq, notNeg_eq]
  cases hx : asI x with
  | some p =>
    obtain ⟨l1, k1, a⟩ := p
    cases hy : asI y with
    | some q =>
      obtain ⟨l2, k2, b⟩ := q
      cases op <;> first | exact Det.and (Det.ret _) | exact Det.and (Det.and (Det.ret _)) | exact Det.and intBin_det
    | none =>
      cases asS x <;> try exact Det.no
      cases asS y <;> try exact Det.no
      cases op <;> first | exact Det.no | exact Det.ret _ | exact Det.and (Det.ret _)
  | none =>
    cases asS x <;> try exact Det.no
    cases asS y <;> try exact Det.no
    cases op <;> first | exact Det.no | exact Det.ret _ | exact Det.and (Det.ret _)
theorem binX_det {T : Tab} {op : BinOp} {ty : TypeId} {x y : XV} : Det (binX T op ty x y) := by
  unfold binX
  cases x <;> cases y <;> try exact Det.no
  · rename_i x y
    dsimp only
    cases T ty with
    | none => exact binC_det.map _
    | some ti =>
      obtain ⟨_, _, _, _, kd, _⟩ := ti
      cases kd <;> try exact binC_det.map _
      · dsimp only
        cases asB x <;> try exact Det.no
        cases asB y <;> try exact Det.no
        cases op <;> first | exact Det.no | exact Det.ret _
      · dsimp only
        cases eqNil x y <;> try exact Det.no
        cases op <;> first | exact Det.no | exact Det.ret _
  · rename_i xs ys
    dsimp only
    cases T ty with
    | none => exact Det.no
    | some ti =>
      obtain ⟨_, _, agg, _, kd, fl⟩ := ti
      cases fl <;> cases agg <;> try exact Det.no
      cases op <;> first | exact Det.no | exact eqL_det.map _
theorem unX_det {op : UnOp} {x : XV} : Det (unX op x) := by
  unfold unX
  cases op <;> cases x <;> (try exact Det.no) <;> (rename_i c; cases c <;> first | exact Det.no | exact Det.ret _)
theorem convX_det {T : Tab} {s d : TypeId} {x : XV} : Det (convX T s d x) := by
  unfold convX
  cases T s <;> cases T d <;> try exact Det.no
  rename_i a b
  obtain ⟨_, _, _, _, ka, _⟩ := a
  obtain ⟨_, _, _, _, kb, _⟩ := b
  cases kb <;> (try (cases ka <;> exact Det.no)) <;> cases x <;> (try (cases ka <;> exact Det.no)) <;> rename_i c <;> cases c <;>
    (try (cases ka <;> first | exact Det.no | exact Det.ret _))
  all_goals (rename_i v; cases ka <;> cases v <;> first | exact Det.no | exact Det.ret _)
theorem nilX_det {x : XV} : Det (nilX x) := by
  unfold nilX
  cases x <;> (try exact Det.no)
  rename_i c
  cases c <;> (try first | exact Det.no | exact Det.ret _)
  rename_i v
  cases v <;> (try exact Det.no)
  rename_i f a b
  cases f <;> first | exact Det.no | exact Det.ret _
theorem maxX_det {mx : Bool} {x y : XV} : Det (maxX mx x y) := by
  unfold maxX
  cases x <;> cases y <;> (try exact Det.no)
  rename_i x y
  dsimp only
  cases asI x <;> cases asI y <;> (try exact Det.no)
  cases mx <;> exact Det.ret _
theorem lenX_det {T : Tab} {t : TypeId} {x : XV} {h : List It} : Det (lenX T t x h) := by
  unfold lenX
  cases T t with
  | none => exact Det.no
  | some ti =>
    obtain ⟨_, _, _, _, kd, _⟩ := ti
    cases kd <;> (try first | exact Det.no | exact Det.ret _)
    · cases x <;> (try exact Det.no)
      rename_i c
      cases c <;> (try exact Det.no)
      rename_i v
      cases v <;> first | exact Det.no | exact Det.ret _
    · cases x <;> (try exact Det.no)
      rename_i c
      intro k hk
      dsimp only at hk ⊢
      split at hk
      all_goals first
        | exact hk.elim
        | exact ⟨_, hk, fun _ h => h⟩
        | (rename_i e; cases e; exact ⟨_, hk, fun _ h => h⟩)
        | (rename_i it e; split at hk <;> first | exact hk.elim | exact ⟨_, hk, fun _ h => h⟩)
theorem callX_det {T : Tab} {ts : List XV} {h : List It} {c : Call} : Det (callX T ts h c) := by
  intro k hh
  unfold callX at hh
  split at hh
  · rename_i e1 e2 e3; obtain ⟨x, h1, h2⟩ := lenX_det k hh; exact ⟨x, h1, fun k' h' => by unfold callX; rw [e1, e2, e3]; exact h2 k' h'⟩
  · rename_i e1 e2; obtain ⟨x, h1, h2⟩ := maxX_det k hh; exact ⟨x, h1, fun k' h' => by unfold callX; rw [e1, e2]; exact h2 k' h'⟩
  · rename_i e1 e2; obtain ⟨x, h1, h2⟩ := maxX_det k hh; exact ⟨x, h1, fun k' h' => by unfold callX; rw [e1, e2]; exact h2 k' h'⟩
  · exact hh.elim
theorem fillX_det {place : Nat → Option (Nat × Nat)} : ∀ {ps : List (Nat × XV)} {cs : List XC}, Det (fillX place ps cs)
  | [], cs => Det.ret _
  | (i, x) :: ps, cs => by
    show Det (fun k => (match place i, cells x with | some (o, z), some l => when (Nat.beq l.length z && Nat.ble (o + z) cs.length) (forceL (putL cs o l) fun cs => fillX place ps cs k) | _, _ => False))
    simp only [when_eq, forceL_eq]
    cases place i <;> cases cells x <;> (try exact Det.no)
    exact Det.and fillX_det
theorem buildX_det {T : Tab} {t : TypeId} {ps : List (Nat × XV)} : Det (buildX T t ps) := by
  unfold buildX
  simp only [when_eq, forceL_eq]
  cases T t with
  | none => exact Det.no
  | some ti =>
    obtain ⟨_, _, _, _, kd, _⟩ := ti
    cases kd <;> (try exact Det.no)
    · exact Det.and (fillX_det.map _)
    · rename_i n e
      cases he : T e with
      | none => simp only [he]; exact Det.no
      | some ei => simp only [he]; exact fillX_det.map _
theorem loadX_det {T : Tab} {t : TypeId} {x : XV} {h : List It} {rd : Nat → Bool} : Det (loadX T t x h rd) := by
  unfold loadX
  simp only [when_eq, cutK_eq, genK_eq]
  cases T t with
  | none => exact Det.no
  | some ti =>
    cases x <;> (try exact Det.no)
    rename_i c
    cases c <;> (try exact Det.no)
    · refine Det.and ?_
      rename_i it _
      cases itemAt h it <;> first | exact Det.no | exact Det.and mkX_det
    · exact Det.and mkX_det
    · refine Det.and ?_
      rename_i it _ _ _
      cases itemAt h it <;> first
        | exact Det.no
        | exact Det.and (Det.ex fun cs => Det.and (Det.and mkX_det))
        | (refine Det.and ?_
           rename_i o
           cases o with
           | none => exact Det.ex fun a => Det.and (Det.and mkX_det)
           | some p => exact Det.or (Det.and (Det.and mkX_det)) (Det.and (Det.ex fun a => Det.and (Det.and mkX_det))))
theorem faddrX_det {T : Tab} {s : TypeId} {x : XV} {f : Nat} : Det (faddrX T s x f) := by
  unfold faddrX
  simp only [when_eq]
  cases T s with
  | none => exact Det.no
  | some ti =>
    obtain ⟨_, _, _, _, kd, _⟩ := ti
    cases kd <;> (try exact Det.no)
    rename_i fs
    dsimp only
    cases fs[f]? with
    | none => exact Det.no
    | some p =>
      dsimp only
      cases T p.2 with
      | none => exact Det.no
      | some fi =>
        refine Det.and ?_
        cases x <;> (try exact Det.no)
        rename_i c
        cases c <;> first | exact Det.no | exact Det.ret _
theorem iaddrX_det {T : Tab} {t : TypeId} {x y : XV} {h : List It} : Det (iaddrX T t x y h) := by
  unfold iaddrX
  simp only [when_eq, inside_eq]
  cases y <;> (try exact Det.no)
  rename_i y
  dsimp only
  cases asI y with
  | none => exact Det.no
  | some p =>
    obtain ⟨l, _, i⟩ := p
    dsimp only
    cases T t with
    | none => exact Det.no
    | some ti =>
      obtain ⟨_, _, _, _, kd, _⟩ := ti
      cases kd <;> (try exact Det.no)
      · rename_i n e
        cases he : T e with
        | none => simp only [he]; exact Det.no
        | some ei =>
          simp only [he]
          refine Det.and ?_
          cases x <;> (try exact Det.no)
          rename_i c
          cases c <;> first | exact Det.no | exact Det.ret _
      · rename_i e
        cases he : T e with
        | none => simp only [he]; exact Det.no
        | some ei =>
          simp only [he]
          cases x <;> (try exact Det.no)
          rename_i c
          cases c <;> (try first | exact Det.no | exact Det.and (Det.and (Det.ret _)) | exact Det.and (Det.ret _))
          · rename_i it
            cases hi : itemAt h it <;> simp only [hi] <;> first | exact Det.no | exact Det.and (Det.and (Det.ret _))
          · rename_i it _ _ _
            cases hi : itemAt h it <;> simp only [hi] <;> first | exact Det.no | exact Det.and (Det.and (Det.ret _))
theorem slice3X_det {T : Tab} {t : TypeId} {x hi mx : XV} {lo : Option XV} : Det (slice3X T t x lo hi mx) := by
  unfold slice3X
  simp only [when_eq]
  cases T t with
  | none => exact Det.no
  | some ti =>
    obtain ⟨_, _, _, _, kd, _⟩ := ti
    cases kd <;> (try exact Det.no)
    rename_i e
    cases he : T e with
    | none => simp only [he]; exact Det.no
    | some ei =>
      simp only [he]
      cases x <;> (try exact Det.no)
      rename_i c
      cases c <;> (try exact Det.no)
      refine Det.and ?_
      cases bnd lo with
      | none => exact Det.no
      | some a => cases bnd (some hi) with
        | none => cases a <;> exact Det.no
        | some b => cases bnd (some mx) with
          | none => cases a <;> cases b <;> exact Det.no
          | some c => cases a <;> cases b <;> cases c <;> first | exact Det.no | exact Det.and (Det.ret _)
theorem sliceX_det {T : Tab} {t : TypeId} {x : XV} {lo hi : Option XV} : Det (sliceX T t x lo hi) := by
  unfold sliceX
  simp only [when_eq, upto_eq]
  cases T t with
  | none => exact Det.no
  | some ti =>
    obtain ⟨_, _, _, _, kd, _⟩ := ti
    cases kd <;> (try exact Det.no)
    · cases x <;> (try exact Det.no)
      rename_i c
      cases c <;> (try exact Det.no)
      rename_i v
      cases v <;> (try exact Det.no)
      dsimp only
      cases bnd lo with
      | none => exact Det.no
      | some a => cases bnd hi with
        | none => cases a <;> exact Det.no
        | some b => cases a <;> cases b <;> first | exact Det.ret _ | exact Det.and (Det.ret _)
    · rename_i n e
      cases he : T e with
      | none => simp only [he]; exact Det.no
      | some ei =>
        simp only [he]
        cases x <;> (try exact Det.no)
        rename_i c
        cases c <;> (try exact Det.no)
        cases bnd lo with
        | none => exact Det.no
        | some a => cases bnd hi with
          | none => cases a <;> exact Det.no
          | some b => cases a <;> cases b <;> first | exact Det.no | exact Det.and (Det.ret _) | exact Det.and (Det.and (Det.ret _))
    · rename_i e
      cases he : T e with
      | none => simp only [he]; exact Det.no
      | some ei =>
        simp only [he]
        cases x <;> (try exact Det.no)
        rename_i c
        cases c <;> (try exact Det.no)
        refine Det.and ?_
        cases bnd lo with
        | none => exact Det.no
        | some a => cases bnd hi with
          | none => cases a <;> exact Det.no
          | some b => cases a <;> cases b <;> first | exact Det.no | exact Det.ret _ | exact Det.and (Det.ret _)
theorem valX_det {T : Tab} {ts : List XV} {h : List It} {rd : Nat → Bool} {op : Op} : Det (valX T ts h rd op) := by
  unfold valX
  cases op <;> (try exact Det.no)
  case move => exact Det.ret _
  case assign => exact Det.ret _
  case pick c a b =>
    show Det (fun k => match opv ts c with
      | .c .bt => k (opv ts a)
      | .c .bf => k (opv ts b)
      | .c (.b x) => (x = true → k (opv ts a)) ∧ (x = false → k (opv ts b))
      | _ => False)
    cases opv ts c <;> (try exact Det.no)
    rename_i c
    cases c <;> first | exact Det.no | exact Det.ret _ | exact Det.two (Det.ret _) (Det.ret _)
  case build => exact buildX_det
  case load => exact loadX_det
  case nilCheck => exact nilX_det
  case binOp => exact binX_det
  case unOp => exact unX_det
  case convert => exact convX_det
  case slice t x lo hi mx => cases mx <;> first | exact sliceX_det | (cases hi <;> first | exact Det.no | exact slice3X_det)
  case fieldAddr => exact faddrX_det
  case field => exact fieldX_det
  case indexAddr => exact iaddrX_det
  case index => exact indexX_det
  case extract => exact extractX_det
  case makeFunc fn first caps =>
    cases fn <;> (try exact Det.no)
    rename_i g; show Det (fun k : XV → Prop => match first.toList, capsX (List.map (opv ts) caps.toList) with | [], some l => forceL l fun l => k (.c (.fn g l.length (nthC l))) | _, _ => False)
    simp only [forceL_eq]
    cases first.toList <;> cases capsX (List.map (opv ts) caps.toList) <;> first | exact Det.no | exact Det.ret _
  case call => exact callX_det
end Go.Eng

/- The engine, part V: a statement whose order is drawn and whose operations each tell one thing, whatever the order. Nothing of any program is proved here. -/
namespace Go.Eng
open Go Go.RowKit
set_option linter.unusedSimpArgs false
set_option linter.unusedVariables false

theorem get_set_ne : ∀ {l : List XV} {d t : Nat} {x : XV}, t ≠ d → get (l.set d x) t = get l t
  | [], _, _, _, _ => by simp
  | _ :: _, 0, 0, _, h => absurd rfl h
  | _ :: _, 0, _ + 1, _, _ => rfl
  | _ :: _, _ + 1, 0, _, _ => rfl
  | _ :: l, d + 1, t + 1, x, h => by
    have := get_set_ne (l := l) (d := d) (t := t) (x := x) (by omega)
    simpa [get] using this

/-- Of these slots the abstract values are known to hold. -/
def RelOn (l : List Tmp) (E : Env) (ts : List XV) (a : Act) : Prop := ts.length = a.tmps.size ∧ ∀ t ∈ l, RelV E (get ts t) (a.tmps.toList.getD t undef)
theorem RelTs.on {E : Env} {ts : List XV} {a : Act} (h : RelTs E ts a.tmps.toList) (l : List Tmp) : RelOn l E ts a := ⟨by simpa using h.len, fun t _ => h.get t⟩
theorem RelOn.set {l : List Tmp} {E : Env} {ts : List XV} {a : Act} {d : Tmp} {x : XV} (hd : d ∉ l) : RelOn l E (ts.set d x) a ↔ RelOn l E ts a := by
  unfold RelOn
  simp only [List.length_set]
  refine and_congr_right fun _ => ⟨fun h t ht => ?_, fun h t ht => ?_⟩
  · have := h t ht; rwa [get_set_ne (fun e => hd (by rw [← e]; exact ht))] at this
  · rw [get_set_ne (fun e => hd (by rw [← e]; exact ht))]; exact h t ht
/-- All other slots are forgotten. -/
def mask (l : List Tmp) : Nat → List XV → List XV
  | _, [] => []
  | i, x :: ts => (if i ∈ l then x else .un) :: mask l (i + 1) ts
theorem mask_get (l : List Tmp) : ∀ (ts : List XV) (i t : Nat), get (mask l i ts) t = if i + t ∈ l then get ts t else .un
  | [], i, t => by simp [mask, get]
  | x :: ts, i, 0 => by simp [mask, get]
  | x :: ts, i, t + 1 => by
    have := mask_get l ts (i + 1) t
    simp only [mask, get]
    rw [this, show i + 1 + t = i + (t + 1) by omega]
theorem mask_len (l : List Tmp) : ∀ (ts : List XV) (i : Nat), (mask l i ts).length = ts.length
  | [], _ => rfl
  | _ :: ts, i => by simp [mask, mask_len l ts (i + 1)]
theorem RelTs.of_get {E : Env} : ∀ {ts : List XV} {vs : List Value}, ts.length = vs.length → (∀ t, RelV E (Eng.get ts t) (vs.getD t undef)) → RelTs E ts vs
  | [], [], _, _ => trivial
  | x :: ts, v :: vs, hl, h => ⟨h 0, RelTs.of_get (by simpa using hl) fun t => by simpa [Eng.get] using h (t + 1)⟩
  | [], _ :: _, hl, _ => by simp at hl
  | _ :: _, [], hl, _ => by simp at hl
theorem RelOn.masked {l : List Tmp} {E : Env} {ts : List XV} {a : Act} (h : RelOn l E ts a) : RelTs E (mask l 0 ts) a.tmps.toList := by
  refine RelTs.of_get (by rw [mask_len]; simpa using h.1) fun t => ?_
  rw [mask_get, Nat.zero_add]
  split
  · rename_i ht; exact h.2 t ht
  · trivial
/-- What an operation reads of the slots are its operands. -/
theorem opv_mask {l : List Tmp} {ts : List XV} {x : Operand} (h : ∀ t, x = .tmp t → t ∈ l) : opv (mask l 0 ts) x = opv ts x := by
  cases x with
  | tmp t => simp only [opv]; rw [mask_get, Nat.zero_add, if_pos (h t rfl)]
  | _ => rfl

/-- A call whose answer hangs on no own block, and that turns nothing. -/
@[irreducible] def CallP (C : Cx) (f : FuncId) (args : List XV) (h : List It) (k : XV → Prop) : Prop :=
  FnOk C.P f ∧ ∃ x, k x ∧ ∀ w0 F E w us, RelTs E args us → Heap w0 F E h w →
    Calls C.P f us.toArray w fun e w' => ∃ u E', e = .returned u ∧ EnvLe E E' ∧ RelV E' x u ∧ Heap w0 F E' h w'
/-- An operation left to its own law. -/
@[irreducible] def OpPX (C : Cx) (o : Oper) (ts : List XV) (h : List It) (k : XV → Prop) : Prop :=
  ∃ x, k x ∧ ∀ w0 F E w a l, (∀ y ∈ o.op.operands, ∀ t, y = .tmp t → t ∈ l) → RelOn l E ts a → Heap w0 F E h w →
    ∃ nx u w' E', (nx = .value u ∨ (nx = .skip ∧ u = undef)) ∧ (execOp a.eval o).run C.P w = .ok nx w' ∧ EnvLe E E' ∧ RelV E' x u ∧ Heap w0 F E' h w'

def puCall (C : Cx) (ts : List XV) (h : List It) (op : Op) (k : XV → Prop) : Prop :=
  match op with
  | .call c => (match c.callee with
    | .value f => fnOf (opv ts f) (c.args.toList.map (opv ts)) fun f args => lowTs args fun args => CallP C f args h k
    | _ => False)
  | _ => False
/-- A slice literal, laid aside as it is made. -/
def puBuild (T : Tab) (ts : List XV) (op : Op) (k : XV → Prop) : Prop :=
  match op with
  | .buildSlice t n ps => (match T t with
    | some ti => (match ti.kd with
      | .sl e => (match T e with
        | some ei => when (Nat.blt 0 (n * ei.size) && Nat.ble (n * ei.size) 10000) (forceL (repX n (zeroX ei.zero)) fun z =>
            fillX (fun i => some (i * ei.size, ei.size)) (ps.toList.map fun p => (p.1, opv ts p.2)) z fun r => when (Nat.beq r.length (n * ei.size) && allSt r)
              (forceLL (chunk ei.size n r) fun xs => k (.c (rsOf xs ei.size))))
        | none => False)
      | _ => False)
    | none => False)
  | _ => False
/-- An append: its slice's type, what is appended to, what is appended. -/
def appOf (op : Op) : Option (TypeId × Operand × Operand) :=
  match op with
  | .call c => (match c.callee, c.args.toList, c.argTypes.toList with
    | .builtin .append, [d, s], [t, t'] => (match Nat.beq t t' with | true => some (t, d, s) | false => none)
    | _, _, _ => none)
  | _ => none
def dstX (ei : TI) (d : XV) (k : List (List XC) → Prop) : Prop :=
  match d with
  | .c (.v (.slice none 0 0)) => k []
  | .c (.ts n z f) => when (Nat.beq z ei.size) (k (rowsOf n z f))
  | _ => False
/-- .. to nil, or to a slice whose capacity is its length: the answer is laid aside as it is made. -/
def puApp (T : Tab) (t : TypeId) (d s : XV) (h : List It) (k : XV → Prop) : Prop :=
  match T t with
  | some ti => (match ti.kd with
    | .sl e => (match T e with
      | some ei => when (Nat.blt 0 ei.size && Nat.ble ei.bytes 100000) (srcX ei h s fun ys => dstX ei d fun xs => xs.length + ys.length ≤ 1000000000 ∧ k (.c (rsOf (xs ++ ys) ei.size)))
      | none => False)
    | _ => False)
  | none => False
def puKind : Op → Nat
  | .buildSlice _ _ _ => 1
  | op => kindOf op
def puOp (C : Cx) (o : Oper) (ts : List XV) (h : List It) (k : List XV → Prop) : Prop :=
  match hookB C.T ts h o.op with
  | true => OpPX C o ts h fun x => finQ o.dst x ts k
  | false => (match appOf o.op with
    | some (t, d, s) => puApp C.T t (opv ts d) (opv ts s) h fun x => finQ o.dst x ts k
    | none => (match puKind o.op, kindOf o.op with
      | 0, _ => valX C.T ts h (fun _ => true) o.op fun x => finQ o.dst x ts k
      | 1, _ => puBuild C.T ts o.op fun x => finQ o.dst x ts k
      | 2, _ => puCall C ts h o.op fun x => finQ o.dst x ts k
      | _, _ => False))
def puX (C : Cx) (all : List Oper) (h : List It) : List Oper → List XV → (List XV → Prop) → Prop
  | [], ts, k => k ts
  | o :: rest, ts, k => (match o.guard with
    | none => puOp C o ts h fun ts => puX C all h rest ts k
    | some (j, want) => (match dstAt all j with
      | none => False
      | some d => (match get ts d, want with
        | .c .bt, true => puOp C o ts h fun ts => puX C all h rest ts k
        | .c .bf, false => puOp C o ts h fun ts => puX C all h rest ts k
        | .c .bt, false => finQ o.dst (.t []) ts fun ts => puX C all h rest ts k
        | .c .bf, true => finQ o.dst (.t []) ts fun ts => puX C all h rest ts k
        | .t [], _ => finQ o.dst (.t []) ts fun ts => puX C all h rest ts k
        | .c (.b x), true => (x = true → setK ts d (.c .bt) fun ts => puOp C o ts h fun ts => puX C all h rest ts k) ∧
            (x = false → setK ts d (.c .bf) fun ts => finQ o.dst (.t []) ts fun ts => puX C all h rest ts k)
        | .c (.b x), false => (x = true → setK ts d (.c .bt) fun ts => finQ o.dst (.t []) ts fun ts => puX C all h rest ts k) ∧
            (x = false → setK ts d (.c .bf) fun ts => puOp C o ts h fun ts => puX C all h rest ts k)
        | _, _ => False)))

/-! ### what an operation tells, of a state of the slots -/
section
variable {C : Cx} {h : List It} {all : Array Oper}

def OpTells (C : Cx) (h : List It) (all : Array Oper) (o : Oper) (ts : List XV) (x : XV) : Prop :=
  ∀ w0 F E (a : Act) (w : World), RelOn (o.looksAt all) E ts a → Heap w0 F E h w →
    ∀ (K : Act → World → Prop) (Q : Exit → Act → World → Prop), (∀ u w' E', EnvLe E E' → RelV E' x u → Heap w0 F E' h w' → K (a.put o.dst u) w') → o.wp C.P a w K Q
def Wants (all : Array Oper) (o : Oper) (ts : List XV) (b : Bool) : Prop :=
  ∀ E (a : Act), RelOn (o.looksAt all) E ts a → Region.wanted o (yielded all a.tmps) = b
def Yld (C : Cx) (h : List It) (all : Array Oper) (o : Oper) (ts : List XV) (x : XV) : Prop :=
  (Wants all o ts true ∧ OpTells C h all o ts x) ∨ (Wants all o ts false ∧ x = .t [])
def putT (dst : Option Tmp) (x : XV) (ts : List XV) : List XV := match dst with | some d => ts.set d x | none => ts

theorem Yld.put {o : Oper} {ts : List XV} {x y : XV} {dst : Option Tmp} (hd : ∀ d, dst = some d → d ∉ o.looksAt all) : Yld C h all o (putT dst y ts) x ↔ Yld C h all o ts x := by
  cases dst with
  | none => exact Iff.rfl
  | some d =>
    have hs : ∀ E a, RelOn (o.looksAt all) E (putT (some d) y ts) a ↔ RelOn (o.looksAt all) E ts a := fun E a => RelOn.set (hd d rfl)
    unfold Yld Wants OpTells
    simp only [hs]
theorem putT_comm {x y : XV} {d e : Option Tmp} {ts : List XV} (hne : ∀ t, d = some t → e ≠ some t) : putT e y (putT d x ts) = putT d x (putT e y ts) := by
  cases d with
  | none => rfl
  | some t =>
    cases e with
    | none => rfl
    | some s =>
      have : t ≠ s := fun e => hne t rfl (by rw [e])
      simp [putT, List.set_comm _ _ this]

/-- Operation number i comes up. -/
def aOp (C : Cx) (h : List It) (all : Array Oper) (i : Nat) (K : List XV → Prop) (ts : List XV) : Prop :=
  match all[i]? with
  | none => K ts
  | some o => ∃ x, Yld C h all o ts x ∧ K (putT o.dst x ts)
theorem aOp_mono {i : Nat} {ts : List XV} {K K' : List XV → Prop} (hK : ∀ ts, K ts → K' ts) (hh : aOp C h all i K ts) : aOp C h all i K' ts := by
  unfold aOp at *
  split
  · rename_i e; rw [e] at hh; exact hK _ hh
  · rename_i o e; rw [e] at hh; obtain ⟨x, h1, h2⟩ := hh; exact ⟨x, h1, hK _ h2⟩
def aAny (C : Cx) (h : List It) (all : Array Oper) (k : List XV → Prop) : Nat → Array Bool → List XV → Prop
  | 0, listed, ts => Region.ready .any all listed = [] ∧ k ts
  | fuel + 1, listed, ts =>
    (Region.ready .any all listed = [] → k ts) ∧
    ∀ i ∈ Region.ready .any all listed, aOp C h all i (aAny C h all k fuel (listed.setIfInBounds i true)) ts

theorem wpOp_of_aOp {w0 : Org} {F : Nat → Prop} {i : Nat} {ts : List XV} {K : List XV → Prop} {K' : Act → World → Prop} {Q : Exit → Act → World → Prop} {a : Act} {w : World} (hc : Cfg w0 F ts h a w)
    (hK : ∀ ts' a' w', K ts' → Cfg w0 F ts' h a' w' → K' a' w') (hh : aOp C h all i K ts) : wpOp C.P all Q i K' a w := by
  obtain ⟨w1, F1, hsub, hd, E, hr, hp⟩ := hc
  unfold aOp at hh
  unfold wpOp
  split
  · rename_i e; rw [e] at hh; exact hK _ _ _ hh ⟨w1, F1, hsub, hd, E, hr, hp⟩
  · rename_i o e
    rw [e] at hh
    obtain ⟨x, hy, hk⟩ := hh
    have hdef : ∀ u, Marks w0 w1 F1 (a.put o.dst u).defers := fun u => by rw [put_defers]; exact hd
    rcases hy with ⟨hw, ht⟩ | ⟨hw, rfl⟩
    · rw [if_pos (hw E a (hr.on _))]
      refine .inl (ht w1 F1 E a w (hr.on _) hp _ _ fun u w' E' hle hx hp' => hK _ _ _ hk ⟨w1, F1, hsub, hdef u, E', ?_, hp'⟩)
      have := put_rel (a := a) (x := x) (u := u) o.dst (hr.mono hle) hx
      cases hdst : o.dst <;> simpa [putT, hdst] using this
    · rw [hw E a (hr.on _), if_neg (by simp)]
      refine hK _ _ _ hk ⟨w1, F1, hsub, hdef _, E, ?_, hp⟩
      have := put_rel (a := a) (x := .t []) (u := undef) o.dst hr (undef_rel E)
      cases hdst : o.dst <;> simpa [putT, hdst] using this
theorem wpAny_of_aAny {w0 : Org} {F : Nat → Prop} {k : List XV → Prop} {Q : Exit → Act → World → Prop} (hQ : ∀ ts a w, k ts → Cfg w0 F ts h a w → Q .normal a w) : ∀ (fuel : Nat) (listed : Array Bool) (ts : List XV) (a : Act) (w : World),
    Cfg w0 F ts h a w → aAny C h all k fuel listed ts → wpAny C.P .any all Q fuel listed a w
  | 0, _, _, _, _, hc, hh => ⟨hh.1, hQ _ _ _ hh.2 hc⟩
  | fuel + 1, _, _, _, _, hc, hh => ⟨fun h0 => hQ _ _ _ (hh.1 h0) hc, fun i hi => wpOp_of_aOp hc (fun ts' a' w' hk hc' => wpAny_of_aAny hQ fuel _ ts' a' w' hc' hk) (hh.2 i hi)⟩

theorem aOp_put {j : Nat} {oi oj : Oper} {x : XV} (hj : all[j]? = some oj) (hap : oi.apart all oj = true) {K : List XV → Prop} {ts : List XV}
    (hy : Yld C h all oi ts x) (hh : aOp C h all j K (putT oi.dst x ts)) : aOp C h all j (fun ts' => Yld C h all oi ts' x ∧ K (putT oi.dst x ts')) ts := by
  obtain ⟨h1, h2, h3⟩ := Oper.apart_spec hap
  unfold aOp at *
  simp only [hj] at *
  obtain ⟨y, hyj, hk⟩ := hh
  exact ⟨y, (Yld.put h1).1 hyj, (Yld.put h3).2 hy, by rw [← putT_comm h2]; exact hk⟩
theorem aAny_first {k : List XV → Prop} {i : Nat} {oi : Oper} {x : XV} (hi : all[i]? = some oi) :
    ∀ (fuel : Nat) (listed : Array Bool) (ts : List XV),
      (∀ j oj, all[j]? = some oj → j ≠ i → listed.getD j true = false → (∀ e ∈ oj.after, Region.binds .any e = true → e.on ≠ i) → oi.apart all oj = true) →
      i ∈ Region.ready .any all listed → Yld C h all oi ts x →
      aAny C h all k fuel (listed.setIfInBounds i true) (putT oi.dst x ts) → aAny C h all k (fuel + 1) listed ts := by
  intro fuel
  have own : ∀ {K : List XV → Prop} {ts : List XV}, Yld C h all oi ts x → K (putT oi.dst x ts) → aOp C h all i K ts := by
    intro K ts hy hk
    unfold aOp
    simp only [hi]
    exact ⟨x, hy, hk⟩
  induction fuel with
  | zero =>
    intro listed ts _ hr hy H
    refine ⟨fun h => (by rw [h] at hr; cases hr), fun j hj => ?_⟩
    by_cases hji : j = i
    · subst hji; exact own hy H
    · have := ready_mono hj hji
      rw [H.1] at this
      cases this
  | succ fuel ih =>
    intro listed ts hfree hr hy H
    refine ⟨fun h => (by rw [h] at hr; cases hr), fun j hj => ?_⟩
    by_cases hji : j = i
    · subst hji; exact own hy H
    · have h1 := H.2 j (ready_mono hj hji)
      obtain ⟨hjun, oj, hoj, hall⟩ := mem_ready.1 hj
      have hnot : ∀ e ∈ oj.after, Region.binds .any e = true → e.on ≠ i := fun e he hb heq => by
        have h1 := hall e he hb
        have h0 := (mem_ready.1 hr).1
        rw [heq] at h1
        rcases Nat.lt_or_ge i listed.size with h' | h'
        · simp [h'] at h0 h1; rw [h0] at h1; cases h1
        · simp [Array.getElem?_eq_none h'] at h1
      have h2 := aOp_put hoj (hfree j oj hoj hji hjun hnot) hy h1
      have hfree' : ∀ k ok, all[k]? = some ok → k ≠ i → (listed.setIfInBounds j true).getD k true = false →
          (∀ e ∈ ok.after, Region.binds .any e = true → e.on ≠ i) → oi.apart all ok = true := fun k ok hk hki hun hno => by
        refine hfree k ok hk hki ?_ hno
        by_cases hjk : j = k
        · subst hjk; exact hjun
        · rw [getD_set_ne true hjk] at hun; exact hun
      refine aOp_mono (fun ts' h3 => ih (listed.setIfInBounds j true) ts' hfree' (ready_mono hr (Ne.symm hji)) h3.1 ?_) h2
      rw [Array.setIfInBounds_comm _ _ hji]
      exact h3.2
/-- The text's order. -/
def aLex (C : Cx) (h : List It) (all : Array Oper) (k : List XV → Prop) : List Oper → List XV → Prop
  | [], ts => k ts
  | o :: l, ts => ∃ x, Yld C h all o ts x ∧ aLex C h all k l (putT o.dst x ts)
theorem aAny_lex {k : List XV → Prop} : ∀ (l : List Oper) (n : Nat) (listed : Array Bool) (ts : List XV), (∀ j, l[j]? = all[n + j]?) →
    Region.lexFrom .any all l.length n listed = true → aLex C h all k l ts → aAny C h all k l.length listed ts
  | [], _, _, _, _, hB, hh => ⟨by simpa [Region.lexFrom] using hB, hh⟩
  | o :: l, n, listed, ts, hl, hB, hh => by
    have h0 : all[n]? = some o := by simpa using (hl 0).symm
    simp only [List.length_cons, Region.lexFrom, Bool.and_eq_true] at hB
    obtain ⟨⟨hr, hf⟩, hB'⟩ := hB
    obtain ⟨x, hy, hk⟩ := hh
    exact aAny_first h0 l.length listed ts (Region.free_spec h0 hf) (by simpa using hr) hy
      (aAny_lex l (n + 1) _ _ (fun j => by have := hl (j + 1); simpa [Nat.add_assoc, Nat.add_comm 1 j] using this) hB' hk)
end

/-! ### from the text's order, evaluated -/
/-- The same said in other words. -/
def Eqv (ts ts' : List XV) : Prop := ts.length = ts'.length ∧ ∀ t E v, RelV E (get ts t) v ↔ RelV E (get ts' t) v
theorem Eqv.refl (ts : List XV) : Eqv ts ts := ⟨rfl, fun _ _ _ => Iff.rfl⟩
theorem get_set_eq : ∀ {l : List XV} {d : Nat} {x : XV}, d < l.length → get (l.set d x) d = x
  | _ :: _, 0, _, _ => rfl
  | _ :: l, d + 1, x, h => by
    have := get_set_eq (l := l) (d := d) (x := x) (by simpa using h)
    simpa [get] using this
theorem get_big : ∀ {l : List XV} {d : Nat}, l.length ≤ d → get l d = .un
  | [], _, _ => rfl
  | _ :: l, d + 1, h => by simpa [get] using get_big (l := l) (d := d) (by simpa using h)
theorem Eqv.put {ts ts' : List XV} (he : Eqv ts ts') (dst : Option Tmp) (x : XV) : Eqv (putT dst x ts) (putT dst x ts') := by
  cases dst with
  | none => exact he
  | some d =>
    refine ⟨by simp [putT, he.1], fun t E v => ?_⟩
    simp only [putT]
    by_cases ht : t = d
    · subst ht
      by_cases hl : t < ts.length
      · rw [get_set_eq hl, get_set_eq (he.1 ▸ hl)]
      · rw [get_big (by simpa using hl), get_big (by simpa [← he.1] using hl)]
    · rw [get_set_ne ht, get_set_ne ht]; exact he.2 t E v
theorem Eqv.rename {ts ts' : List XV} (he : Eqv ts ts') {d : Nat} {x : XV} (hx : ∀ E v, RelV E (get ts' d) v ↔ RelV E x v) : Eqv ts (ts'.set d x) := by
  refine ⟨by simp [he.1], fun t E v => ?_⟩
  by_cases ht : t = d
  · subst ht
    by_cases hl : t < ts'.length
    · rw [get_set_eq hl, he.2]; exact hx E v
    · rw [get_big (l := ts'.set t x) (by simpa using hl), he.2, get_big (by simpa using hl)]
  · rw [get_set_ne ht]; exact he.2 t E v
theorem Eqv.on {ts ts' : List XV} (he : Eqv ts ts') {l : List Tmp} {E : Env} {a : Act} (h : RelOn l E ts a) : RelOn l E ts' a :=
  ⟨he.1 ▸ h.1, fun t ht => (he.2 t _ _).1 (h.2 t ht)⟩
theorem Eqv.cfg {w0 : Org} {F : Nat → Prop} {ts ts' : List XV} {h : List It} {a : Act} {w : World} (he : Eqv ts ts') (hc : Cfg w0 F ts h a w) : Cfg w0 F ts' h a w := by
  obtain ⟨w1, F1, hsub, hd, E, hr, hp⟩ := hc
  exact ⟨w1, F1, hsub, hd, E, RelTs.of_get (by rw [← he.1]; exact hr.len) fun t => (he.2 t _ _).1 (hr.get t), hp⟩

theorem valX_congr {T : Tab} {ts ts' : List XV} {h : List It} {rd : Nat → Bool} {op : Op} {k : XV → Prop} (he : ∀ x ∈ op.operands, opv ts' x = opv ts x) (hh : valX T ts h rd op k) : valX T ts' h rd op k := by
  cases op
  case move x => have e := he x (by simp [Op.operands]); simp only [valX] at *; rw [e]; exact hh
  case assign x => have e := he x (by simp [Op.operands]); simp only [valX] at *; rw [e]; exact hh
  case pick c a b =>
    have e := he c (by simp [Op.operands]); have e1 := he a (by simp [Op.operands]); have e2 := he b (by simp [Op.operands])
    simp only [valX] at *; rw [e, e1, e2]; exact hh
  case build t ps =>
    have e : (ps.toList.map fun p => (p.1, opv ts' p.2)) = ps.toList.map fun p => (p.1, opv ts p.2) := List.map_congr_left fun p hp => by rw [he p.2 (by simp only [Op.operands, List.mem_toArray, List.mem_map]; exact ⟨p, hp, rfl⟩)]
    simp only [valX] at *; rw [e]; exact hh
  case load t x => have e := he x (by simp [Op.operands]); simp only [valX] at *; rw [e]; exact hh
  case nilCheck x => have e := he x (by simp [Op.operands]); simp only [valX] at *; rw [e]; exact hh
  case binOp op t x y ty =>
    have e := he x (by simp [Op.operands]); have e1 := he y (by simp [Op.operands])
    simp only [valX] at *; rw [e, e1]; exact hh
  case unOp op t x => have e := he x (by simp [Op.operands]); simp only [valX] at *; rw [e]; exact hh
  case convert s d x => have e := he x (by simp [Op.operands]); simp only [valX] at *; rw [e]; exact hh
  case slice t x lo hi mx =>
    cases mx with
    | some mx => cases hi with
      | none => simp [valX] at hh
      | some hi =>
        have e := he x (by simp [Op.operands])
        have e1 : lo.map (opv ts') = lo.map (opv ts) := by cases lo with
          | none => rfl
          | some y => have := he y (by simp [Op.operands]); simp [this]
        have e2 := he hi (by simp [Op.operands]); have e3 := he mx (by simp [Op.operands])
        simp only [valX] at *; rw [e, e1, e2, e3]; exact hh
    | none =>
      have e := he x (by simp [Op.operands])
      have e1 : lo.map (opv ts') = lo.map (opv ts) := by cases lo with
        | none => rfl
        | some y => have := he y (by simp [Op.operands]); simp [this]
      have e2 : hi.map (opv ts') = hi.map (opv ts) := by cases hi with
        | none => rfl
        | some y => have := he y (by simp [Op.operands]); simp [this]
      simp only [valX] at *; rw [e, e1, e2]; exact hh
  case fieldAddr s x f => have e := he x (by simp [Op.operands]); simp only [valX] at *; rw [e]; exact hh
  case field s x f => have e := he x (by simp [Op.operands]); simp only [valX] at *; rw [e]; exact hh
  case indexAddr t x y =>
    have e := he x (by simp [Op.operands]); have e1 := he y (by simp [Op.operands])
    simp only [valX] at *; rw [e, e1]; exact hh
  case index t x y =>
    have e := he x (by simp [Op.operands]); have e1 := he y (by simp [Op.operands])
    simp only [valX] at *; rw [e, e1]; exact hh
  case extract x i => have e := he x (by simp [Op.operands]); simp only [valX] at *; rw [e]; exact hh
  case makeFunc fn first caps =>
    have e : caps.toList.map (opv ts') = caps.toList.map (opv ts) := List.map_congr_left fun p hp => he p (by simp only [Op.operands, Array.mem_append]; exact .inr (by simpa using hp))
    cases fn <;> (try (simp [valX] at hh; done))
    simp only [valX] at *; rw [e]; exact hh
  case call c =>
    obtain ⟨cal, args, tys⟩ := c
    have e : ∀ x ∈ args.toList, opv ts' x = opv ts x := fun x hx => he x (by simp only [Op.operands, Call.operands, Array.mem_append]; exact .inr (by simpa using hx))
    simp only [valX, callX] at *
    split at hh
    · rename_i x t e1 e2
      have e1 : args.toList = [x] := e1
      rw [e1] at e
      rw [e x (by simp)]; exact hh
    · rename_i x y e1
      have e1 : args.toList = [x, y] := e1
      rw [e1] at e
      rw [e x (by simp), e y (by simp)]; exact hh
    · rename_i x y e1
      have e1 : args.toList = [x, y] := e1
      rw [e1] at e
      rw [e x (by simp), e y (by simp)]; exact hh
    · exact hh.elim
  all_goals (simp [valX] at hh; done)

/-! ### soundness -/
section
variable {C : Cx} (hT : TabOk C.P C.T) {h : List It} {all : Array Oper}

theorem Heap.grown {w0 : Org} {F : Nat → Prop} {E : Env} {h : List It} {w w' : World} (hp : Heap w0 F E h w) (hf : Fr (fun _ => False) w w') {E1 : Env} {e z : Nat} {xs : List (List XC)} (hle : EnvLe E E1) (hn1 : E1.n = h.length + 1)
    (hp1 : Heap w0 F E1 (h ++ [.row e z xs]) w') : ∃ E2, EnvLe E E2 ∧ RelC E2 (rsOf xs z) (E1.sl h.length) ∧ Heap w0 F E2 h w' := by
  have hx : (h ++ [It.row e z xs])[h.length]? = some (.row e z xs) := by simp
  let B : Nat → Prop := fun b => (E1.sl h.length).ownBlock = some b
  have hrs := hp1.rs_of (B := B) hx (fun b hb => hb)
  have hle1 : EnvLe E1 (E1.more w' B) := hp1.le_more
  have keep : ∀ b, b < w.heap.size → w'.heap[b]? = w.heap[b]? := fun b hb => hf.block b hb (fun x => x)
  have hle2 : EnvLe E ((E1.more w' B).cut h.length) := by
    have := hle.trans hle1
    exact ⟨by rw [hp.n]; exact Nat.le_refl _, this.blk, this.sl, this.ext, this.bs⟩
  refine ⟨(E1.more w' B).cut h.length, hle2, RelC.stable (E := E1.more w' B) (E' := (E1.more w' B).cut h.length) (fun _ h => ⟨h, rfl⟩) _ _ trivial hrs, ?_⟩
  have hat : ∀ {k : Nat} {x : It}, h[k]? = some x → (h ++ [It.row e z xs])[k]? = some x := fun {k x} hk => by
    rw [List.getElem?_append_left (List.getElem?_eq_some_iff.1 hk).1]; exact hk
  have how : ∀ {k : Nat} {x : It} {b : Nat}, h[k]? = some x → Ow ((E1.more w' B).cut h.length) k x b → Ow E1 k x b := fun {k x b} hk hb => by
    cases x <;> exact hb
  refine ⟨?_, hp1.le.trans hle1.bs, ?_, rfl, ?_, ?_, ?_, hp1.fr⟩
  · rintro k (hB | hB)
    · exact ⟨(hp1.bs k hB).1, rfl⟩
    · exact ⟨(hp1.own _ _ k hx hB).1, rfl⟩
  · rintro b (hB | hB)
    · exact hp1.nb b hB
    · exact .inr (hp1.own _ _ b hx hB).2.2
  · intro k x hk
    refine ItOk.mono hle2 (hp.blkLt hk) ((hp.ok k x hk).of_block fun b hb => keep b (hp.own k x b hk hb).1)
  · intro k x b hk hb
    have h1 := hp1.own k x b (hat hk) (how hk hb)
    refine ⟨h1.1, ?_, h1.2.2⟩
    rintro (hB | hB)
    · exact h1.2.1 hB
    · have := hp1.sep k _ _ _ b (hat hk) hx (how hk hb) hB
      have := (List.getElem?_eq_some_iff.1 hk).1
      omega
  · intro j k x y b hx' hy hb hb'
    exact hp1.sep j k x y b (hat hx') (hat hy) (how hx' hb) (how hy hb')

theorem puBuild_det {T : Tab} {ts : List XV} {op : Op} : Det (puBuild T ts op) := by
  intro k hh
  unfold puBuild at hh ⊢
  split at hh
  case h_2 => exact hh.elim
  rename_i t n ps
  split at hh
  case h_2 => exact hh.elim
  rename_i ti ht
  split at hh
  case h_2 => exact hh.elim
  rename_i e hkd
  split at hh
  case h_2 => exact hh.elim
  rename_i ei hte
  simp only [when_eq, forceL_eq, forceLL_eq] at hh ⊢
  obtain ⟨h0, hh⟩ := hh
  obtain ⟨r, ⟨hb, hk⟩, hx⟩ := fillX_det _ hh
  exact ⟨_, hk, fun k' h' => ⟨h0, hx _ ⟨hb, h'⟩⟩⟩

include hT in
theorem build_sound {w0 : Org} {F : Nat → Prop} {E : Env} {h : List It} {w : World} {ts : List XV} {t : TypeId} {n : Nat} {ps : Array (Nat × Operand)} {k : XV → Prop} {a : Act} {o : Oper} (hop : o.op = .buildSlice t n ps) (hh : puBuild C.T ts (.buildSlice t n ps) k) (hr : RelTs E ts a.tmps.toList) (hp : Heap w0 F E h w) :
    ∃ x u w' E', k x ∧ RelV E' x u ∧ EnvLe E E' ∧ Heap w0 F E' h w' ∧ (execOp a.eval o).run C.P w = .ok (.value u) w' := by
  have ev := fun x => opv_rel (E := E) hr x
  unfold puBuild at hh
  unfold execOp
  simp only [hop]
  dsimp only at hh
  split at hh
  case h_2 => exact hh.elim
  rename_i ti ht
  split at hh
  case h_2 => exact hh.elim
  rename_i e hkd
  have hu := mkKd_sl ((TIs.of (hT _ _ ht)).kd.symm.trans hkd)
  split at hh
  case h_2 => exact hh.elim
  rename_i ei hte
  have hs := TIs.of (hT _ _ hte)
  replace hh := when_iff hh
  obtain ⟨hb, hh⟩ := hh
  simp only [Bool.and_eq_true] at hb
  have hpos : 0 < n * ei.size := by
    have : 0 + 1 ≤ n * ei.size := by simpa [Nat.blt, Nat.ble_eq] using hb.1
    omega
  have hsmall := Nat.le_of_ble_eq_true hb.2
  rw [forceL_eq] at hh
  obtain ⟨z, hz, hzc⟩ := run_zero hs w
  have hzs : z.cells.size = ei.size := by rw [← Array.length_toList, hzc, hs.zlen]
  have hz0 : 0 < z.cells.size := by rw [hzs]; exact Nat.pos_of_mul_pos_left hpos
  have hmade := madeRow z.cells hz0 n
  rw [hzs] at hmade
  have hrz : RelL E (repX n (zeroX ei.zero)) ((Array.range (n * ei.size)).map (fun i => z.cells[i % ei.size]!)).toList := by
    rw [hmade, hzc]; exact repX_rel (zeroX_rel E _ hs.zone) n
  obtain ⟨r, vs, hh, hf, hrel, hsz⟩ := fillX_sound (us := (ps.map fun p => (p.1, a.eval p.2)).toList) hh (by simp [Function.comp_def]) (fun i x u hx hu => by
    simp only [List.map_map, Array.toList_map] at hx hu
    simp only [List.getElem?_map, Option.map_eq_some_iff] at hx hu
    obtain ⟨p, hp', rfl⟩ := hx
    obtain ⟨p', hp'', rfl⟩ := hu
    rw [hp'] at hp''; cases hp''
    exact ev _) hrz
  replace hh := when_iff hh
  obtain ⟨hb2, hh⟩ := hh
  rw [forceLL_eq] at hh
  simp only [Bool.and_eq_true] at hb2
  have hrl : r.length = n * ei.size := Nat.eq_of_beq_eq_true hb2.1
  obtain ⟨hfl, hcl, hcn⟩ := chunk_flat ei.size n r hrl
  have hn : n ≤ 10000 := Nat.le_trans (Nat.le_mul_of_pos_right n (Nat.pos_of_mul_pos_left hpos)) hsmall
  obtain ⟨E', hp', hE, hv, haf⟩ := hp.pushRow (e := e) (z := ei.size) (n := n) (cap := n) (cur := vs) (xs := chunk ei.size n r) hcn.symm (Nat.le_refl _) (by simp only [maxLen]; omega)
    (by rw [hsz]; simp) (by rw [hfl, List.take_of_length_le (by rw [Array.length_toList, hsz]; simp)]; exact hrel) hcl (by rw [hfl]; exact allSt_iff hb2.2)
  obtain ⟨E2, hle2, hrel2, hp2⟩ := hp.grown (Fr.alloc w _) hE (by rw [hp'.n]; simp) hp'
  rw [← hv.2.1] at hrel2
  refine ⟨_, _, _, E2, hh, hrel2, hle2, hp2, ?_⟩
  have hno : ¬ (n * ei.size > 2 ^ 24) := by omega
  have hne : ¬ (n * ei.size = 0) := by omega
  simp only [Instr.buildSlice, Sem.run_bind, run_underlying hu, Result.andThen_ok, run_size hs, Sem.run_ite, hno, hne, if_false, Sem.run_pure, hz, hzs]
  simp only [hf, newRow]
  simp

theorem srcX_det {ei : TI} {h : List It} {x : XV} : Det (srcX ei h x) := by
  intro k hh
  unfold srcX at hh ⊢
  split at hh
  · split at hh
    · simp only [when_eq] at hh ⊢; exact ⟨_, hh.2, fun _ h => ⟨hh.1, h⟩⟩
    · exact hh.elim
  · simp only [when_eq] at hh ⊢; exact ⟨_, hh.2, fun _ h => ⟨hh.1, h⟩⟩
  · exact ⟨_, hh, fun _ h => h⟩
  · exact hh.elim
theorem dstX_det {ei : TI} {d : XV} : Det (dstX ei d) := by
  intro k hh
  unfold dstX at hh ⊢
  split at hh
  · exact ⟨_, hh, fun _ h => h⟩
  · simp only [when_eq] at hh ⊢; exact ⟨_, hh.2, fun _ h => ⟨hh.1, h⟩⟩
  · exact hh.elim
theorem puApp_det {T : Tab} {t : TypeId} {d s : XV} {h : List It} : Det (puApp T t d s h) := by
  intro k hh
  unfold puApp at hh ⊢
  split at hh
  case h_2 => exact hh.elim
  split at hh
  case h_2 => exact hh.elim
  split at hh
  case h_2 => exact hh.elim
  simp only [when_eq] at hh ⊢
  obtain ⟨h0, hh⟩ := hh
  obtain ⟨ys, hh, hx⟩ := srcX_det _ hh
  obtain ⟨xs, ⟨hl, hk⟩, hy⟩ := dstX_det _ hh
  exact ⟨_, hk, fun k' h' => ⟨h0, hx _ (hy _ ⟨hl, h'⟩)⟩⟩
theorem appOf_spec {op : Op} {t : TypeId} {d s : Operand} (h : appOf op = some (t, d, s)) : op = .call ⟨.builtin .append, #[d, s], #[t, t]⟩ := by
  unfold appOf at h
  split at h
  · rename_i c
    obtain ⟨callee, args, argTypes⟩ := c
    simp only at h
    split at h
    · rename_i d' s' t1 t2 e1 e2
      split at h
      · rename_i hb
        have := Nat.eq_of_beq_eq_true hb
        subst this
        injection h with h
        injection h with h1 h2
        injection h2 with h2 h3
        subst h1; subst h2; subst h3
        obtain rfl : args = #[d', s'] := by cases args; simpa using e1
        obtain rfl : argTypes = #[t1, t1] := by cases argTypes; simpa using e2
        rfl
      · cases h
    · cases h
  · cases h
theorem ts_rs {E : Env} {n z : Nat} {f : Nat → Nat → XC} {v : Value} (h : RelC E (.ts n z f) v) : RelC E (rsOf (rowsOf n z f) z) v := by
  obtain ⟨A, rfl, h1, h2⟩ := h
  have hl : (rowsOf n z f).length = n := by simp [rowsOf]
  refine ⟨A, n, by rw [hl], by rw [hl]; exact Nat.le_refl _, h1, fun i hi => ?_⟩
  rw [hl] at hi
  obtain ⟨ad, e, hc⟩ := h2 i hi
  refine ⟨ad, e, fun j hj => ?_⟩
  have : cell2 (rowsOf n z f) i j = f i j := by
    unfold cell2
    rw [nthL_eq, nthC_getD]
    simp [rowsOf, hi, hj]
  rw [this]
  exact hc j hj
include hT in
theorem app_sound {w0 : Org} {F : Nat → Prop} {E : Env} {h : List It} {w : World} {ts : List XV} {t : TypeId} {d s : Operand} {k : XV → Prop} {a : Act} {o : Oper} (hop : appOf o.op = some (t, d, s)) (hh : puApp C.T t (opv ts d) (opv ts s) h k) (hr : RelTs E ts a.tmps.toList) (hp : Heap w0 F E h w) :
    ∃ x u w' E', k x ∧ RelV E' x u ∧ EnvLe E E' ∧ Heap w0 F E' h w' ∧ (execOp a.eval o).run C.P w = .ok (.value u) w' := by
  have hd := opv_rel (E := E) hr d
  have hs := opv_rel (E := E) hr s
  have hex : ∀ {v : Value} {w' : World}, (Builtin.append_ #[t, t] o.type #[a.eval d, a.eval s]).run C.P w = .ok v w' → (execOp a.eval o).run C.P w = .ok (.value v) w' := fun {v w'} hv => by
    unfold execOp
    simp only [appOf_spec hop]
    simp [resolve, invoke, builtin, hv]
  unfold puApp at hh
  split at hh
  case h_2 => exact hh.elim
  rename_i ti ht
  split at hh
  case h_2 => exact hh.elim
  rename_i e hkd
  have hu := mkKd_sl ((TIs.of (hT _ _ ht)).kd.symm.trans hkd)
  split at hh
  case h_2 => exact hh.elim
  rename_i ei hte
  have hts := TIs.of (hT _ _ hte)
  replace hh := when_iff hh
  obtain ⟨hb, hh⟩ := hh
  simp only [Bool.and_eq_true] at hb
  have hz : 0 < ei.size := by
    have : 0 + 1 ≤ ei.size := by simpa [Nat.blt, Nat.ble_eq] using hb.1
    omega
  have hby := Nat.le_of_ble_eq_true hb.2
  obtain ⟨ys, A, m, c, ul, hh2, hsv, rfl, hul, hc, hR, hlen, hst⟩ := srcX_sound (e := e) hh hs hp
  clear hh
  have hh := hh2
  clear hh2
  rw [hsv] at hex
  have push : ∀ {xs : List (List XC)} {ol : List Value} {v' : Value} {w' : World}, (∀ E', E'.bs = E.bs → RelL E' xs.flatten ol) → (∀ l ∈ xs, l.length = ei.size) → (∀ x ∈ xs.flatten, St x) →
      w'.ownsRow 0 e ei.size v' (xs.length + ys.length) (ol ++ ul) → w.grownBy w' none → (∀ b, v'.ownBlock = some b → w.heap.size ≤ b) →
      ∃ E2, EnvLe E E2 ∧ RelC E2 (rsOf (xs ++ ys) ei.size) v' ∧ Heap w0 F E2 h w' := fun {xs ol v' w'} hRo hlo hso ho hg hv => by
    have hE := Env.push_le E 0 v'
    have hfr : Fr (fun _ => False) w w' := ⟨hg.os, hg.tape, hg.output, hg.size, fun k hk _ => hg.block k hk (by simp)⟩
    have hp' := hp.push (x := .row e ei.size (xs ++ ys)) (b := 0) (v := v') (S := fun _ => False) hfr
      ⟨ol ++ ul, by simpa [Env.push] using ho, by rw [List.flatten_append]; exact (hRo (E.push 0 v') rfl).append (hR (E.push 0 v') rfl), fun l hl => by rcases List.mem_append.1 hl with hl | hl; exact hlo l hl; exact hlen l hl,
        fun x hx => by rw [List.flatten_append] at hx; rcases List.mem_append.1 hx with hx | hx; exact hso x hx; exact hst x hx⟩ (fun b hb' => by
          have hb' : v'.ownBlock = some b := by simpa [Ow, Env.push] using hb'
          exact ⟨hv b hb', (ho.lt b hb').2⟩)
    obtain ⟨E2, hle2, hrel2, hp2⟩ := hp.grown hfr hE (by simp [Env.push, hp.n]) hp'
    rw [show (E.push 0 v').sl h.length = v' by simp [Env.push, hp.n]] at hrel2
    exact ⟨E2, hle2, hrel2, hp2⟩
  unfold dstX at hh
  split at hh
  · rename_i hdx
    obtain ⟨hle, hk⟩ := hh
    rw [hdx] at hd
    have hdv : a.eval d = .slice none 0 0 := hd.1
    rw [hdv] at hex
    obtain ⟨v', w', hrun, ho, hg, hv⟩ := run_app (P := C.P) (ty := o.type) (c := c) hu hts hz hby (World.ownsRow_nil w 0 e ei.size) hul hc (hR E rfl).all (by simp at hle; omega)
    obtain ⟨E2, hle2, hrel2, hp2⟩ := push (xs := []) (ol := []) (fun _ _ => trivial) (by simp) (by simp) ho hg (fun b hb' => by
      rcases hv with e1 | e1
      · rw [e1] at hb'; simp [Value.ownBlock] at hb'
      · rw [e1] at hb'; cases hb'; exact Nat.le_refl _)
    exact ⟨_, v', w', E2, hk, hrel2, hle2, hp2, hex hrun⟩
  · rename_i n z f hdx
    have hh := when_iff hh
    obtain ⟨hzb, hle, hk⟩ := hh
    have hzz := Nat.eq_of_beq_eq_true hzb
    rw [hdx] at hd
    obtain ⟨xs, B, n', ol, hxs, hdv, hn', hol, hoc, hRo, hlo, hso⟩ := tightX_sound (e := e) (ei := ei) (x := .c (.ts n z f)) (k := fun xs => xs = rowsOf n z f) (show when (Nat.beq z ei.size) (rowsOf n z f = rowsOf n z f) by rw [when_eq]; exact ⟨hzb, rfl⟩) hd hp
    subst hxs
    rw [hdv] at hex
    obtain ⟨i, hi, _⟩ := hts.info
    by_cases hy : ys.length = 0
    · obtain rfl : ys = [] := List.length_eq_zero_iff.1 hy
      rw [List.append_nil] at hk
      refine ⟨_, _, w, E, hk, ?_, EnvLe.refl E, hp, hex (run_append_nothing' (P := C.P) w t o.type e i hu hi B A n' c)⟩
      rw [← hdv, ← hzz]
      exact ts_rs hd
    · obtain ⟨v', w', hrun, hown, hg, hv⟩ := run_app_tight (P := C.P) (ty := o.type) (c := c) hu hts hz hby hol hoc hul hc hy (by omega)
      rw [hn'] at hown
      obtain ⟨E2, hle2, hrel2, hp2⟩ := push hRo hlo hso hown hg (fun b hb' => by rw [hv] at hb'; cases hb'; exact Nat.le_refl _)
      exact ⟨_, v', w', E2, hk, hrel2, hle2, hp2, hex hrun⟩
  · exact hh.elim

theorem effX_congr_build {T : Tab} {ts ts' : List XV} {t : TypeId} {n : Nat} {ps : Array (Nat × Operand)} {k : XV → Prop} (he : ∀ x ∈ (Op.buildSlice t n ps).operands, opv ts' x = opv ts x) (hh : puBuild T ts (.buildSlice t n ps) k) : puBuild T ts' (.buildSlice t n ps) k := by
  have e : (ps.toList.map fun p => (p.1, opv ts' p.2)) = ps.toList.map fun p => (p.1, opv ts p.2) := List.map_congr_left fun p hp => by rw [he p.2 (by simp only [Op.operands, List.mem_toArray, List.mem_map]; exact ⟨p, hp, rfl⟩)]
  simp only [puBuild] at *; rw [e]; exact hh

theorem tmp_looks {o : Oper} {y : Operand} (hy : y ∈ o.op.operands) : ∀ t, y = .tmp t → t ∈ o.looksAt all := fun t e => by
  subst e
  exact List.mem_append_left _ (List.mem_filterMap.2 ⟨.tmp t, by simpa using hy, rfl⟩)

include hT in
theorem puOp_tells {o : Oper} {ts : List XV} {k : List XV → Prop} (hh : puOp C o ts h k) : ∃ x, OpTells C h all o ts x ∧ k (putT o.dst x ts) := by
  have hmask : ∀ y ∈ o.op.operands, opv (mask (o.looksAt all) 0 ts) y = opv ts y := fun y hy => opv_mask (tmp_looks hy)
  have fq : ∀ x, finQ o.dst x ts k = k (putT o.dst x ts) := fun x => by rw [finQ_eq]; cases o.dst <;> rfl
  unfold puOp at hh
  split at hh
  · unfold OpPX at hh
    obtain ⟨x, hk, hrun⟩ := hh
    rw [fq] at hk
    refine ⟨x, fun w0 F E a w hon hp K Q hK => ?_, hk⟩
    obtain ⟨nx, u, w', E', hnx, hr, hle, hx, hp'⟩ := hrun w0 F E w a _ (fun y hy => tmp_looks hy) hon hp
    unfold Oper.wp
    rw [hr]
    rcases hnx with rfl | ⟨rfl, rfl⟩ <;> exact hK _ _ _ hle hx hp'
  split at hh
  · rename_i t d s hop
    have hspec := appOf_spec hop
    have hmd := hmask d (by rw [hspec]; simp [Op.operands, Call.operands])
    have hms := hmask s (by rw [hspec]; simp [Op.operands, Call.operands])
    rw [← hmd, ← hms] at hh
    obtain ⟨x, hk, hx⟩ := puApp_det _ hh
    rw [fq] at hk
    refine ⟨x, fun w0 F E a w hon hp K Q hK => ?_, hk⟩
    obtain ⟨y, u, w', E', rfl, hy, hle, hp', hrun⟩ := app_sound (o := o) (C := C) hT hop (hx (fun y => y = x) rfl) hon.masked hp
    unfold Oper.wp
    rw [hrun]
    exact hK _ _ _ hle hy hp'
  split at hh
  · obtain ⟨x, hk, hx⟩ := valX_det _ hh
    rw [fq] at hk
    have hv := valX_congr hmask (hx (fun y => y = x) rfl)
    refine ⟨x, fun w0 F E a w hon hp K Q hK => ?_, hk⟩
    obtain ⟨y, u, rfl, hy, hrun⟩ := valX_sound hT hv hon.masked hp
    unfold Oper.wp
    rw [hrun w (same_refl hp _)]
    exact hK _ _ _ (EnvLe.refl E) hy hp
  · obtain ⟨dst, op, ty, pos, after, guard⟩ := o
    obtain ⟨t, n, ps, rfl⟩ : ∃ t n ps, op = .buildSlice t n ps := by
      cases op <;> first
        | exact ⟨_, _, _, rfl⟩
        | (exfalso; simp [puBuild] at hh; done)
    dsimp only at hh hmask fq ⊢
    have hh' := effX_congr_build hmask hh
    obtain ⟨x, hk, hx⟩ := puBuild_det _ hh'
    rw [fq] at hk
    refine ⟨x, fun w0 F E a w hon hp K Q hK => ?_, hk⟩
    obtain ⟨y, u, w', E', rfl, hy, hle, hp', hrun⟩ := build_sound (o := ⟨dst, .buildSlice t n ps, ty, pos, after, guard⟩) (C := C) hT rfl (hx (fun y => y = x) rfl) hon.masked hp
    unfold Oper.wp
    rw [hrun]
    exact hK _ _ _ hle hy hp'
  · unfold puCall at hh
    split at hh
    case h_2 => exact hh.elim
    rename_i c hop
    obtain ⟨callee, args, argTypes⟩ := c
    simp only at hh
    split at hh
    case h_2 => exact hh.elim
    rename_i f
    have hfm : opv (mask (o.looksAt all) 0 ts) f = opv ts f := hmask f (by rw [hop]; simp [Op.operands, Call.operands])
    have ham : args.toList.map (opv (mask (o.looksAt all) 0 ts)) = args.toList.map (opv ts) := List.map_congr_left fun y hy => hmask y (by rw [hop]; simp [Op.operands, Call.operands]; exact .inr (by simpa using hy))
    have key : ∀ (g : FuncId) (xs : List XV), (lowTs xs fun xs => CallP C g xs h (fun x => finQ o.dst x ts k)) →
        (∀ E (a : Act), RelOn (o.looksAt all) E ts a → ∃ us, RelTs E xs us ∧ ∀ w, (execOp a.eval o).run C.P w = (callFunc g us.toArray).run C.P w) →
        ∃ x, OpTells C h all o ts x ∧ k (putT o.dst x ts) := by
      intro g xs hcall hargs
      have hlow : ∃ xs', CallP C g xs' h (fun x => finQ o.dst x ts k) ∧ ∀ E us, RelTs E xs us → RelTs E xs' us := by
        have : ∀ (l : List XV) (K : List XV → Prop), lowTs l K → ∃ l', K l' ∧ ∀ E us, RelTs E l us → RelTs E l' us := by
          have hc : ∀ (l : List XC) (K : List XC → Prop), lowL l K → ∃ l', K l' ∧ ∀ E us, RelL E l us → RelL E l' us := by
            intro l
            induction l with
            | nil => intro K hK; exact ⟨_, hK, fun _ _ h => h⟩
            | cons x l ih =>
              intro K hK
              unfold lowL at hK
              rw [forceC_eq] at hK
              obtain ⟨l', h1, h2⟩ := ih _ hK
              exact ⟨_, h1, fun E us hr => by cases us with | nil => exact hr.elim | cons u us => exact ⟨lowC_rel hr.1, h2 _ _ hr.2⟩⟩
          intro l
          induction l with
          | nil => intro K hK; exact ⟨_, hK, fun _ _ h => h⟩
          | cons x l ih =>
            intro K hK
            unfold lowTs lowV at hK
            split at hK
            · rw [forceC_eq] at hK
              obtain ⟨l', h1, h2⟩ := ih _ hK
              exact ⟨_, h1, fun E us hr => by cases us with | nil => exact hr.elim | cons u us => exact ⟨lowC_rel hr.1, h2 _ _ hr.2⟩⟩
            · obtain ⟨m, h3, h4⟩ := hc _ _ hK
              obtain ⟨l', h1, h2⟩ := ih _ h3
              exact ⟨_, h1, fun E us hr => by
                cases us with
                | nil => exact hr.elim
                | cons u us => obtain ⟨vs, e, hl⟩ := hr.1; exact ⟨⟨vs, e, h4 _ _ hl⟩, h2 _ _ hr.2⟩⟩
            · rw [forceV_eq] at hK
              obtain ⟨l', h1, h2⟩ := ih _ hK
              exact ⟨_, h1, fun E us hr => by cases us with | nil => exact hr.elim | cons u us => exact ⟨hr.1, h2 _ _ hr.2⟩⟩
        exact this xs _ hcall
      obtain ⟨xs', hcall, hlow⟩ := hlow
      unfold CallP at hcall
      obtain ⟨⟨fn, hfn, hname, hbody⟩, x, hk, hcall⟩ := hcall
      rw [fq] at hk
      refine ⟨x, fun w0 F E a w hon hp K Q hK => ?_, hk⟩
      obtain ⟨us, hus, hex⟩ := hargs E a hon
      have hrun : (callFunc g us.toArray).run C.P w = .ok (.enter g us.toArray) w := by
        cases hb : fn.body with
        | none => rw [hb] at hbody; cases hbody
        | some b =>
          have hne : ¬ fn.name = "runtime.NumGoroutine" := by simpa using hname
          simp [callFunc, hfn, hne, hb]
      unfold Oper.wp
      rw [hex, hrun]
      simp only [Oper.upon]
      refine (hcall w0 F E w us (hlow _ _ hus) hp).mono fun e w' he => ?_
      obtain ⟨u, E', rfl, hle, hx, hp'⟩ := he
      exact hK _ _ _ hle hx hp'
    have evf : ∀ E (a : Act), RelOn (o.looksAt all) E ts a → RelV E (opv ts f) (a.eval f) := fun E a hon => by rw [← hfm]; exact opv_rel hon.masked f
    have eva : ∀ E (a : Act), RelOn (o.looksAt all) E ts a → RelTs E (args.toList.map (opv ts)) (args.toList.map a.eval) := fun E a hon => by rw [← ham]; exact opvs_rel hon.masked args.toList
    unfold fnOf at hh
    split at hh
    · rename_i g fs cs e
      split at hh
      · rename_i e1 e2
        have hfs : fs = #[] := by cases fs; simpa using e1
        have hcs : cs = #[] := by cases cs; simpa using e2
        subst hfs; subst hcs
        refine key g _ hh fun E a hon => ⟨_, eva E a hon, fun w => ?_⟩
        have hf := evf E a hon
        rw [e] at hf
        have hv : a.eval f = .func (.func g) #[] #[] := hf.1
        unfold execOp
        rw [hop]
        have hm : Array.map a.eval args = (List.map a.eval args.toList).toArray := by rw [← Array.toList_map, Array.toArray_toList]
        simp [resolve, hv, Deferred.ofValue, invoke, hm]
      · exact hh.elim
    · rename_i g n caps e
      refine key g _ hh fun E a hon => ?_
      have hf := evf E a hon
      rw [e] at hf
      obtain ⟨vs, hv, hn, hc⟩ := hf
      refine ⟨_, (eva E a hon).append (by have := capL_rel (E := E) (vs := vs) n 0 (caps := caps) (by omega) (fun j hj => hc j (by omega)); simpa using this), fun w => ?_⟩
      unfold execOp
      rw [hop]
      simp only [resolve, hv, Deferred.ofValue, invoke, Sem.run_bind, Sem.run_pure, Result.andThen_ok]
      have hm : Array.map a.eval args ++ vs = (List.map a.eval args.toList ++ vs.toList).toArray := by rw [← Array.toList_map, ← Array.toList_append, Array.toArray_toList]
      simp [hm]
    · exact hh.elim
  · exact hh.elim

theorem putT_len {d : Option Tmp} {x : XV} {ts : List XV} : (putT d x ts).length = ts.length := by cases d <;> simp [putT]
theorem Eqv.yld {o : Oper} {ts ts' : List XV} {x : XV} (he : Eqv ts ts') (h1 : Yld C h all o ts' x) : Yld C h all o ts x := by
  rcases h1 with ⟨h1, h2⟩ | ⟨h1, h2⟩
  · exact .inl ⟨fun E a hon => h1 E a (he.on hon), fun w0 F E a w hon => h2 w0 F E a w (he.on hon)⟩
  · exact .inr ⟨fun E a hon => h1 E a (he.on hon), h2⟩

theorem guard_looks {l : List Oper} {o : Oper} {j : Nat} {want : Bool} {d : Tmp} (hg : o.guard = some (j, want)) (hd : dstAt l j = some d) : d ∈ o.looksAt l.toArray := by
  rw [dstAt_eq] at hd
  refine List.mem_append_right _ ?_
  rw [hg]
  simp only [List.getElem?_toArray, hd]
  simp
theorem wants_bool {l : List Oper} {o : Oper} {ts : List XV} {j : Nat} {want : Bool} {d : Tmp} {b : Bool} (hg : o.guard = some (j, want)) (hd : dstAt l j = some d) (hv : ∀ E v, RelV E (get ts d) v → v = .bool b) : Wants l.toArray o ts (b == want) := by
  intro E a hon
  rw [wanted_of hg, yielded_of hd (hv _ _ (hon.2 d (guard_looks hg hd)))]
  cases b <;> cases want <;> rfl
theorem wants_undef {l : List Oper} {o : Oper} {ts : List XV} {j : Nat} {want : Bool} {d : Tmp} (hg : o.guard = some (j, want)) (hd : dstAt l j = some d) (hv : get ts d = .t []) : Wants l.toArray o ts false := by
  intro E a hon
  have h1 := hon.2 d (guard_looks hg hd)
  rw [hv] at h1
  obtain ⟨vs, hvs, hws⟩ := h1
  have : vs = #[] := by
    cases vs with
    | mk l => cases l with
      | nil => rfl
      | cons _ _ => exact hws.elim
  subst this
  rw [wanted_of hg, yielded_undef hd hvs]; rfl

include hT in
theorem puX_lex {l0 : List Oper} : ∀ {l : List Oper} {ts ts' : List XV} {k : List XV → Prop}, puX C l0 h l ts' k → Eqv ts ts' → aLex C h l0.toArray (fun t => ∃ t', Eqv t t' ∧ k t') l ts
  | [], ts, ts', k, hh, he => ⟨ts', he, hh⟩
  | o :: rest, ts, ts', k, hh, he => by
    have run : ∀ {t : List XV}, Eqv ts t → Wants l0.toArray o t true → (puOp C o t h fun t => puX C l0 h rest t k) → ∃ x, Yld C h l0.toArray o ts x ∧ aLex C h l0.toArray (fun t => ∃ t', Eqv t t' ∧ k t') rest (putT o.dst x ts) := by
      intro t he hw hh
      obtain ⟨x, h1, h2⟩ := puOp_tells hT (all := l0.toArray) hh
      exact ⟨x, he.yld (.inl ⟨hw, h1⟩), puX_lex h2 (he.put _ _)⟩
    have skip : ∀ {t : List XV}, Eqv ts t → Wants l0.toArray o t false → (finQ o.dst (.t []) t fun t => puX C l0 h rest t k) → ∃ x, Yld C h l0.toArray o ts x ∧ aLex C h l0.toArray (fun t => ∃ t', Eqv t t' ∧ k t') rest (putT o.dst x ts) := by
      intro t he hw hh
      rw [finQ_eq] at hh
      have hh : puX C l0 h rest (putT o.dst (.t []) t) k := by cases hd : o.dst <;> simpa [putT, hd] using hh
      exact ⟨.t [], he.yld (.inr ⟨hw, rfl⟩), puX_lex hh (he.put _ _)⟩
    show ∃ x, _
    unfold puX at hh
    split at hh
    · rename_i hg
      exact run he (fun E a _ => by simp [Region.wanted, hg]) hh
    · rename_i j want hg
      split at hh
      case h_1 => exact hh.elim
      rename_i d hd
      split at hh
      · rename_i e; exact run he (wants_bool (b := true) hg hd (fun E v hv => by rw [e] at hv; exact hv)) hh
      · rename_i e; exact run he (wants_bool (b := false) hg hd (fun E v hv => by rw [e] at hv; exact hv)) hh
      · rename_i e; exact skip he (wants_bool (b := true) hg hd (fun E v hv => by rw [e] at hv; exact hv)) hh
      · rename_i e; exact skip he (wants_bool (b := false) hg hd (fun E v hv => by rw [e] at hv; exact hv)) hh
      · rename_i e; exact skip he (wants_undef hg hd e) hh
      · rename_i x e
        have hset : ∀ {y : XV}, (∀ E v, RelV E (get ts' d) v ↔ RelV E y v) → Eqv ts (ts'.set d y) := fun hy => he.rename hy
        cases x
        · have h1 := hh.2 rfl
          rw [setK_eq] at h1
          have he' : Eqv ts (ts'.set d (.c .bf)) := hset fun E v => by rw [e]; exact Iff.rfl
          exact skip he' (wants_bool (b := false) hg hd (fun E v hv => by
              have h2 := (he'.2 d E v).2 hv
              have h3 := (he.2 d E v).1 h2
              rw [e] at h3; exact h3)) h1
        · have h1 := hh.1 rfl
          rw [setK_eq] at h1
          have he' : Eqv ts (ts'.set d (.c .bt)) := hset fun E v => by rw [e]; exact Iff.rfl
          exact run he' (wants_bool (b := true) hg hd (fun E v hv => by
              have h2 := (he'.2 d E v).2 hv
              have h3 := (he.2 d E v).1 h2
              rw [e] at h3; exact h3)) h1
      · rename_i x e
        have hset : ∀ {y : XV}, (∀ E v, RelV E (get ts' d) v ↔ RelV E y v) → Eqv ts (ts'.set d y) := fun hy => he.rename hy
        cases x
        · have h1 := hh.2 rfl
          rw [setK_eq] at h1
          have he' : Eqv ts (ts'.set d (.c .bf)) := hset fun E v => by rw [e]; exact Iff.rfl
          exact run he' (wants_bool (b := false) hg hd (fun E v hv => by
              have h2 := (he'.2 d E v).2 hv
              have h3 := (he.2 d E v).1 h2
              rw [e] at h3; exact h3)) h1
        · have h1 := hh.1 rfl
          rw [setK_eq] at h1
          have he' : Eqv ts (ts'.set d (.c .bt)) := hset fun E v => by rw [e]; exact Iff.rfl
          exact skip he' (wants_bool (b := true) hg hd (fun E v hv => by
              have h2 := (he'.2 d E v).2 hv
              have h3 := (he.2 d E v).1 h2
              rw [e] at h3; exact h3)) h1
      · exact hh.elim

theorem Cfg.drew {w0 : Org} {F : Nat → Prop} {ts : List XV} {h : List It} {a : Act} {w : World} (hc : Cfg w0 F ts h a w) : Cfg w0 F ts h a { w with drawn := w.drawn + 1 } := by
  obtain ⟨w1, F1, hsub, hd, E, hr, hp⟩ := hc
  exact ⟨w1, F1, hsub, hd, E, hr, hp.stays ⟨rfl, rfl, rfl, Nat.le_refl _, fun _ _ _ => rfl⟩⟩

include hT in
/-- A statement whose order is drawn, whose operations each tell one thing: walked in the text's order. -/
theorem drawx_pure {id : Nat} {ops : List Oper} {k : KS} {ts : List XV} {h : List It} (hm : C.P.follows .mixedOrders = true) (hB : Region.lexB .any ops.toArray = true) (hh : puX C ops h ops ts fun ts => k ts h) (hnd : C.rd = none ∨ noDefer ops.toArray = true := by first | exact .inl rfl | exact .inr (by kernel_rfl)) : DrawX C id ops k ts h := by
  unfold DrawX
  intro w0 F Q' a w hK hc
  simp only [Region.lexB, Bool.and_eq_true] at hB
  have hl := puX_lex hT hh (Eqv.refl ts)
  refine fen_drawn (Q := Q' .normal) hnd hm (wpAny_of_aAny (C := C) (h := h) (w0 := w0) (F := F) (k := fun t => ∃ t', Eqv t t' ∧ k t' h) (fun ts' a' w' ⟨t', he, hk⟩ hc' => ⟨rfl, hK _ _ _ _ hk (he.cfg hc')⟩) _ _ ts _ _ hc.drew ?_) (fun _ _ h => h)
  have := aAny_lex (C := C) (h := h) ops 0 (Array.replicate ops.toArray.size false) ts (by simp) (by simpa using hB.2) hl
  simpa using this
end

/-- The call of a contract, inside such a statement. -/
theorem callp_tells {C : Cx} {f : FuncId} {args : List XV} {h : List It} {k : XV → Prop} {v : XV} (hf : Fn C.P f args (Tells v)) (hs : stXs args = true) (hv : stX v) (hk : k v) : CallP C f args h k := by
  unfold CallP
  refine ⟨hf.ok, v, hk, fun w0 F E w us hargs hp => ?_⟩
  refine (hf.run E.bs w us hp.bs (stXs_rel (E := E) (E' := ⟨E.bs, 0, fun _ => 0, fun _ => undef, fun _ _ => False⟩) rfl hs hargs)).mono fun e w' ⟨u, x, h', E', he, hR, hx, hp'⟩ => ?_
  obtain ⟨hp2, hle⟩ := hp.behind hp'
  exact ⟨u, { E with bs := E'.bs }, he, hle, RelV.ofSt (E := E') (E' := { E with bs := E'.bs }) (fun b hb => ⟨hb, rfl⟩) hv (entV_rel hR hx), hp2⟩
theorem callp_as {C : Cx} {f : FuncId} {args : List XV} {h : List It} {k : XV → Prop} {v : XV} (v' : XV) (hf : Fn C.P f args (Tells v)) (hs : stXs args = true) (he : entV v v') (hv : stX v') (hk : k v') : CallP C f args h k := by
  unfold CallP
  refine ⟨hf.ok, v', hk, fun w0 F E w us hargs hp => ?_⟩
  refine (hf.run E.bs w us hp.bs (stXs_rel (E := E) (E' := ⟨E.bs, 0, fun _ => 0, fun _ => undef, fun _ _ => False⟩) rfl hs hargs)).mono fun e w' ⟨u, x, h', E', he', hR, hx, hp'⟩ => ?_
  obtain ⟨hp2, hle⟩ := hp.behind hp'
  exact ⟨u, { E with bs := E'.bs }, he', hle, RelV.ofSt (E := E') (E' := { E with bs := E'.bs }) (fun b hb => ⟨hb, rfl⟩) hv (entV_rel he (entV_rel hR hx)), hp2⟩
/-- .. of a function that reads what the caller owns. -/
theorem callp_lend {C : Cx} {f : FuncId} {args : List XV} {h : List It} {k : XV → Prop} {args' : List XV} {v : XV} (hf : Fn C.P f args' (Tells v)) (hl : args.map (lendV h) = args') (hs : stXs args' = true) (hv : flatV v = true) (hk : k v) : CallP C f args h k := by
  unfold CallP
  refine ⟨hf.ok, v, hk, fun w0 F E w us hargs hp => ?_⟩
  refine (hf.run (E.lent h w).bs w us hp.lent_ok (stXs_rel (E := E.lent h w) (E' := ⟨(E.lent h w).bs, 0, fun _ => 0, fun _ => undef, fun _ _ => False⟩) rfl hs (hl ▸ lendTs_rel hp hargs))).mono fun e w' ⟨u, x, h', E', he, hR, hx, hp'⟩ => ?_
  exact ⟨u, E, he, EnvLe.refl E, flatV_rel hv (entV_rel hR hx), hp.stays hp'.fr⟩
end Go.Eng
