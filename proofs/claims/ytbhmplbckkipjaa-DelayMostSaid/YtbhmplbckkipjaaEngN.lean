/- The engine, part N: loops and scopes by invariants; nothing of any program is proved here. -/
import Derived.Test.YtbhmplbckkipjaaEngMa
import Derived.Deep.LoopGhost
import Derived.Sort.LoopGhostIn
namespace Go.Eng
open Go Go.RowKit
set_option linter.unusedSimpArgs false
set_option linter.unusedVariables false

/-! ### a state that says less -/
def wfCaps (n : Nat) : Nat → (Nat → XC) → Bool
  | 0, _ => true
  | m + 1, c => (match c m with
    | .p it _ => (match Nat.blt it n with | true => wfCaps n m c | false => false)
    | .ow _ | .q _ _ _ _ | .sp _ _ _ _ | .mp _ | .fn _ _ _ => false
    | _ => wfCaps n m c)
def wfC (n : Nat) : XC → Bool
  | .p it _ | .ow it | .q it _ _ _ | .sp it _ _ _ | .mp it => Nat.blt it n
  | .fn _ m c => wfCaps n m c
  | _ => true
def wfL (n : Nat) : List XC → Bool
  | [] => true
  | x :: l => (match wfC n x with | true => wfL n l | false => false)
def wfV (n : Nat) : XV → Bool
  | .c x => wfC n x
  | .a l => wfL n l
  | .t [] => true
  | .t _ => false
  | .un => true
def wfS (n : Nat) : List (Nat × XV) → Bool
  | [] => true
  | (_, x) :: l => (match wfV n x with | true => wfS n l | false => false)
def wfVs (n : Nat) : List XV → Bool
  | [] => true
  | x :: l => (match wfV n x with | true => wfVs n l | false => false)
def entTs : List XV → List XV → Prop
  | [], [] => True
  | x :: l, y :: m => (match y with | .un => True | y => x = y) ∧ entTs l m
  | _, _ => False
def wfIt (n : Nat) : It → Bool
  | .cells _ cs => wfL n cs
  | .held _ xs => wfVs n xs
  | .prow _ _ _ (some (_, cs)) => wfL n cs
  | _ => true
def wfH (n : Nat) : List It → Bool
  | [] => true
  | x :: l => (match wfIt n x with | true => wfH n l | false => false)

def SlotsOk (t : List XV) : List (Nat × XV) → Prop
  | [] => True
  | (i, x) :: l => entV (get t i) x ∧ SlotsOk t l
/-- An element that says less. -/
def AbsL.le (a b : AbsL) : Prop := ∀ bs vs S w, a.is bs vs S w → b.is bs vs S w
def leA : List AbsL → List AbsL → Prop
  | [], [] => True
  | a :: l, b :: m => AbsL.le a b ∧ leA l m
  | _, _ => False
def opLe : Option (Nat × List XC) → Option (Nat × List XC) → Prop
  | none, none => True
  | some (i, cs), some (j, ds) => i = j ∧ entL cs ds
  | _, _ => False
theorem leA_len : ∀ {l m : List AbsL}, leA l m → l.length = m.length
  | [], [], _ => rfl
  | _ :: _, _ :: _, h => by simp [leA_len h.2]
  | [], _ :: _, h => h.elim
  | _ :: _, [], h => h.elim
theorem leA_refl : ∀ l : List AbsL, leA l l
  | [] => trivial
  | _ :: l => ⟨fun _ _ _ _ h => h, leA_refl l⟩
theorem leA_get : ∀ {l m : List AbsL}, leA l m → ∀ {i : Nat} {b : AbsL}, m[i]? = some b → ∃ a, l[i]? = some a ∧ AbsL.le a b
  | a :: _, b :: _, h, 0, c, hc => by simp at hc; subst hc; exact ⟨a, rfl, h.1⟩
  | _ :: l, _ :: m, h, i + 1, c, hc => by simpa using leA_get h.2 (i := i) (by simpa using hc)
  | [], [], _, _, _, hc => by simp at hc
  | [], _ :: _, h, _, _, _ => h.elim
  | _ :: _, [], h, _, _, _ => h.elim
theorem leA_append : ∀ {l l' m m' : List AbsL}, leA l m → leA l' m' → leA (l ++ l') (m ++ m')
  | [], _, [], _, _, h => h
  | _ :: _, _, _ :: _, _, h, h' => ⟨h.1, leA_append h.2 h'⟩
  | [], _, _ :: _, _, h, _ => h.elim
  | _ :: _, _, [], _, h, _ => h.elim
theorem leA_set : ∀ {l m : List AbsL} (i : Nat) {a b : AbsL}, leA l m → AbsL.le a b → leA (l.set i a) (m.set i b)
  | [], [], _, _, _, _, _ => trivial
  | _ :: _, _ :: _, 0, _, _, h, h' => ⟨h', h.2⟩
  | _ :: l, _ :: m, i + 1, _, _, h, h' => ⟨h.1, leA_set i h.2 h'⟩
  | [], _ :: _, _, _, _, h, _ => h.elim
  | _ :: _, [], _, _, _, h, _ => h.elim
theorem leA_of_eq {l m : List AbsL} (h : l = m) : leA l m := h ▸ leA_refl l

def ItLe (a : It) : It → Prop
  | .dead => True
  | .cells ty cs => (match a with | .cells ty' cs' => ty' = ty ∧ entL cs' cs | _ => False)
  | .row e z xs => (match a with | .row e' z' ys => (e' = e ∧ z' = z) ∧ entLL ys xs | _ => False)
  | .obj Φ => a = .obj Φ
  | .abs A' => (match a with | .abs A => ∀ bs v S w, A.is bs v S w → A'.is bs v S w | _ => False)
  | .held vs ys => (match a with | .held us xs => us = vs ∧ entTs xs ys | _ => False)
  | .prow e z as o => (match a with | .prow e' z' bs o' => (e' = e ∧ z' = z) ∧ leA bs as ∧ opLe o' o | _ => False)
def PreOk : List It → List It → Prop
  | _, [] => True
  | a :: l, b :: m => ItLe a b ∧ PreOk l m
  | [], _ :: _ => False

/-- The slots and blocks that are named hold what is said. -/
def Wk (t : List XV) (h : List It) (s : List (Nat × XV)) (h' : List It) : Prop := SlotsOk t s ∧ PreOk h h' ∧ (wfS h'.length s && wfH h'.length h') = true

def look : List (Nat × XV) → Nat → XV
  | [], _ => .un
  | (j, x) :: l, i => (match Nat.beq j i with | true => x | false => look l i)
def frameFrom (s : List (Nat × XV)) : Nat → Nat → List XV
  | _, 0 => []
  | i, n + 1 => look s i :: frameFrom s (i + 1) n
/-- A frame of so many slots, of which these are known. -/
def frame (n : Nat) (s : List (Nat × XV)) : List XV := frameFrom s 0 n

theorem blt_lt {a b : Nat} (h : Nat.blt a b = true) : a < b := by
  have : a + 1 ≤ b := by simpa [Nat.blt, Nat.ble_eq] using h
  omega

section
variable {E : Env} {n : Nat}

def Env.cut (E : Env) (n : Nat) : Env := { E with n := n }

theorem cut_st {x : XC} {u : Value} (hs : St x) (hr : RelC E x u) : RelC (E.cut n) x u := RelC.stable (E := E) (E' := E.cut n) (fun _ h => ⟨h, rfl⟩) x u hs hr

theorem wfCaps_rel (hn : n ≤ E.n) : ∀ (m : Nat) {c : Nat → XC}, wfCaps n m c = true → ∀ j, j < m → ∀ u, RelC E (c j) u → RelC (E.cut n) (c j) u
  | m + 1, c, h, j, hj, u, hu => by
    unfold wfCaps at h
    by_cases e : j = m
    · subst e
      cases hc : c j <;> rw [hc] at h hu <;> simp only at h
      case p it off =>
        split at h
        · rename_i h1; exact ⟨blt_lt h1, hu.2⟩
        · cases h
      case ep => exact cut_st (show St (.ep _ _) from trivial) hu
      case rs => exact cut_st (show St (.rs _ _ _) from trivial) hu
      all_goals first | exact hu | cases h
    · refine wfCaps_rel hn m ?_ j (by omega) u hu
      cases hc : c m <;> rw [hc] at h <;> simp only at h
      case p it off => split at h; exact h; cases h
      all_goals first | exact h | cases h

theorem wfC_rel (hn : n ≤ E.n) {x : XC} {u : Value} (h : wfC n x = true) (hr : RelC E x u) : RelC (E.cut n) x u := by
  cases x with
  | p it off => exact ⟨blt_lt h, hr.2⟩
  | ow it => exact ⟨blt_lt h, hr.2⟩
  | q it => exact ⟨blt_lt h, hr.2⟩
  | sp it => exact ⟨blt_lt h, hr.2⟩
  | mp it => exact ⟨blt_lt h, hr.2⟩
  | fn f m c =>
    obtain ⟨vs, rfl, hm, hc⟩ := hr
    refine ⟨vs, rfl, hm, fun j hj => ?_⟩
    obtain ⟨v, hv, hrel⟩ := hc j hj
    exact ⟨v, hv, wfCaps_rel hn m h j hj v hrel⟩
  | ep => exact cut_st (show St (.ep _ _) from trivial) hr
  | rs => exact cut_st (show St (.rs _ _ _) from trivial) hr
  | un => exact hr
  | il => exact hr
  | i => exact hr
  | bt => exact hr
  | bf => exact hr
  | b => exact hr
  | v => exact hr

theorem wfL_rel (hn : n ≤ E.n) : ∀ {l : List XC} {us : List Value}, wfL n l = true → RelL E l us → RelL (E.cut n) l us
  | [], [], _, _ => trivial
  | x :: l, u :: us, h, hr => by
    unfold wfL at h
    split at h
    · rename_i h1; exact ⟨wfC_rel hn h1 hr.1, wfL_rel hn h hr.2⟩
    · cases h
  | [], _ :: _, _, h => h.elim
  | _ :: _, [], _, h => h.elim

theorem wfV_rel (hn : n ≤ E.n) {x : XV} {u : Value} (h : wfV n x = true) (hr : RelV E x u) : RelV (E.cut n) x u := by
  cases x with
  | un => trivial
  | c x => exact wfC_rel hn h hr
  | a l => obtain ⟨vs, rfl, hl⟩ := hr; exact ⟨vs, rfl, wfL_rel hn h hl⟩
  | t l =>
    cases l with
    | nil => obtain ⟨vs, rfl, hl⟩ := hr; exact ⟨vs, rfl, by cases hv : vs.toList with | nil => trivial | cons a l => rw [hv] at hl; exact hl.elim⟩
    | cons a l => cases h

theorem look_rel (hn : n ≤ E.n) {t : List XV} {vs : List Value} (hr : RelTs E t vs) : ∀ {s : List (Nat × XV)}, SlotsOk t s → wfS n s = true → ∀ i, RelV (E.cut n) (look s i) (vs.getD i undef)
  | [], _, _, _ => trivial
  | (j, x) :: s, hs, hw, i => by
    unfold wfS at hw
    split at hw
    · rename_i h1
      unfold look
      split
      · rename_i e
        have e := Nat.eq_of_beq_eq_true e
        subst e
        have := hr.get j
        exact wfV_rel hn h1 (entV_rel hs.1 this)
      · exact look_rel hn hr hs.2 hw i
    · cases hw

theorem frame_rel {E : Env} {s : List (Nat × XV)} {vs : List Value} (h : ∀ i, RelV E (look s i) (vs.getD i undef)) : ∀ (n i : Nat), i + n = vs.length → RelTs E (frameFrom s i n) (vs.drop i)
  | 0, i, e => by rw [List.drop_of_length_le (by omega)]; trivial
  | n + 1, i, e => by
    have hi : i < vs.length := by omega
    rw [List.drop_eq_getElem_cons hi]
    have := h i
    rw [List.getD_eq_getElem?_getD, List.getElem?_eq_getElem hi] at this
    exact ⟨this, frame_rel h n (i + 1) (by omega)⟩

theorem wfH_get : ∀ {h : List It} {k : Nat} {x : It}, wfH n h = true → h[k]? = some x → wfIt n x = true
  | y :: h, k, x, hw, hk => by
    unfold wfH at hw
    split at hw
    · rename_i h1
      cases k with
      | zero => simp at hk; subst hk; exact h1
      | succ k => exact wfH_get hw (by simpa using hk)
    · cases hw
  | [], _, _, _, hk => by simp at hk
theorem wfH_at {h : List It} {k : Nat} {ty : TypeId} {cs : List XC} (hw : wfH n h = true) (hk : h[k]? = some (.cells ty cs)) : wfL n cs = true := wfH_get hw hk
theorem wfH_held {h : List It} {k : Nat} {us : List Value} {xs : List XV} (hw : wfH n h = true) (hk : h[k]? = some (.held us xs)) : wfVs n xs = true := wfH_get hw hk
theorem wfVs_rel (hn : n ≤ E.n) : ∀ {l : List XV} {us : List Value}, wfVs n l = true → RelTs E l us → RelTs (E.cut n) l us
  | [], [], _, _ => trivial
  | x :: l, u :: us, hw, h => by
    unfold wfVs at hw
    split at hw
    · rename_i h1
      exact ⟨wfV_rel hn h1 h.1, wfVs_rel hn hw h.2⟩
    · cases hw
  | [], _ :: _, _, h => h.elim
  | _ :: _, [], _, h => h.elim
theorem entTs_rel : ∀ {l m : List XV} {us : List Value}, entTs l m → RelTs E l us → RelTs E m us
  | [], [], _, _, h => h
  | x :: l, y :: m, u :: us, he, h => by
    refine ⟨?_, entTs_rel he.2 h.2⟩
    have h1 := he.1
    cases y with
    | un => trivial
    | c => have h1 : x = _ := h1; rw [← h1]; exact h.1
    | a => have h1 : x = _ := h1; rw [← h1]; exact h.1
    | t => have h1 : x = _ := h1; rw [← h1]; exact h.1
  | _ :: _, _ :: _, [], _, h => h.elim
  | [], _ :: _, _, he, _ => he.elim
  | _ :: _, [], _, he, _ => he.elim

theorem PreOk.at_ : ∀ {h h' : List It}, PreOk h h' → h'.length ≤ h.length ∧ ∀ (k : Nat) (y : It), h'[k]? = some y → ∃ x, h[k]? = some x ∧ ItLe x y
  | _, [], _ => ⟨Nat.zero_le _, fun k y hy => by simp at hy⟩
  | a :: l, b :: m, hp => by
    obtain ⟨h1, h2⟩ := PreOk.at_ hp.2
    refine ⟨by simp; omega, fun k y hy => ?_⟩
    cases k with
    | zero => simp at hy; subst hy; exact ⟨a, rfl, hp.1⟩
    | succ k => simpa using h2 k y (by simpa using hy)
  | [], _ :: _, hp => hp.elim

theorem ItLe.ow {x y : It} (h : ItLe x y) {k b : Nat} (hy : Ow (E.cut n) k y b) : Ow E k x b := by
  cases y with
  | dead => exact hy.elim
  | cells ty cs =>
    cases x with
    | cells => exact hy
    | _ => exact h.elim
  | row e z xs =>
    cases x with
    | row => exact hy
    | _ => exact h.elim
  | obj Φ =>
    have h : x = .obj Φ := h
    subst h; exact hy
  | abs A' =>
    cases x with
    | abs => exact hy
    | _ => exact h.elim
  | held us ys => exact hy.elim
  | prow e z as o =>
    cases x with
    | prow => exact hy
    | _ => exact h.elim
theorem ItLe.ok (hn : n ≤ E.n) {x y : It} (h : ItLe x y) {w : World} {k : Nat} (hwf : wfIt n y = true) (hi : ItOk E w k x) : ItOk (E.cut n) w k y := by
  have hcells : ∀ ty cs, y = .cells ty cs → wfL n cs = true := fun ty cs e => by subst e; exact hwf
  have hheld : ∀ us xs, y = .held us xs → wfVs n xs = true := fun us xs e => by subst e; exact hwf
  cases y with
  | prow e z as o =>
    cases x with
    | prow e' z' bs o' =>
      obtain ⟨⟨rfl, rfl⟩, hA, hO⟩ := h
      obtain ⟨ys, Ss, h1⟩ := hi
      have hlen := leA_len hA
      refine ⟨ys, Ss, by rw [← hlen]; exact h1.row, fun i b hb hno => ?_, fun i cs e => ?_, h1.sep, h1.own, h1.blk⟩
      · obtain ⟨a, ha, hle⟩ := leA_get hA hb
        refine hle _ _ _ _ (h1.el i a ha fun cs e => ?_)
        subst e
        cases o with
        | none => exact hO.elim
        | some p => obtain ⟨rfl, _⟩ := hO; exact hno p.2 rfl
      · subst e
        cases o' with
        | none => exact hO.elim
        | some p =>
          obtain ⟨e1, e2⟩ := hO
          obtain ⟨g1, g2, g3⟩ := h1.op p.1 p.2 rfl
          rw [e1] at g1 g3
          exact ⟨by rw [← hlen]; exact g1, by rw [← entL_len e2]; exact g2, wfL_rel hn hwf (entL_rel e2 g3)⟩
    | _ => exact h.elim
  | dead => trivial
  | cells ty cs =>
    cases x with
    | cells ty' cs' =>
      obtain ⟨rfl, he⟩ := h
      obtain ⟨vs, hv, hrel⟩ := hi
      exact ⟨vs, hv, wfL_rel hn (hcells _ _ rfl) (entL_rel he hrel)⟩
    | _ => exact h.elim
  | row e z xs =>
    cases x with
    | row e' z' ys =>
      obtain ⟨⟨rfl, rfl⟩, he⟩ := h
      obtain ⟨vs, ho, hrel, hl, hst⟩ := hi
      have hst' := entL_st (entLL_flat he) hst
      rw [entLL_len he] at ho
      exact ⟨vs, ho, RelL.ofSt (E := E) (E' := E.cut n) rfl hst' (entL_rel (entLL_flat he) hrel), entLL_lens he hl, hst'⟩
    | _ => exact h.elim
  | obj Φ =>
    have h : x = .obj Φ := h
    subst h; exact hi
  | abs A' =>
    cases x with
    | abs A => exact h _ _ _ _ hi
    | _ => exact h.elim
  | held us ys =>
    cases x with
    | held us' xs =>
      obtain ⟨rfl, h⟩ := h
      exact wfVs_rel hn (hheld _ _ rfl) (entTs_rel h hi)
    | _ => exact h.elim

theorem Wk.cfg {w0 : Org} {F : Nat → Prop} {t : List XV} {h : List It} {s : List (Nat × XV)} {h' : List It} {a : Act} {w : World} (hk : Wk t h s h') (hc : Cfg w0 F t h a w) : Cfg w0 F (frame t.length s) h' a w := by
  obtain ⟨hs, hp, hw⟩ := hk
  rw [Bool.and_eq_true] at hw
  obtain ⟨w1, F1, hsub, hd, E, hr, hH⟩ := hc
  obtain ⟨hle, hat⟩ := hp.at_
  have hn : h'.length ≤ E.n := by rw [hH.n]; exact hle
  refine ⟨w1, F1, hsub, hd, E.cut h'.length, ?_, ?_⟩
  · have := frame_rel (s := s) (look_rel hn hr hs hw.1) t.length 0 (by rw [Nat.zero_add]; exact hr.len)
    simpa [frame] using this
  · have hb : ∀ (k : Nat) (y : It) (b : Nat), h'[k]? = some y → Ow (E.cut h'.length) k y b → ∃ x, h[k]? = some x ∧ Ow E k x b := by
      intro k y b hy hby
      obtain ⟨x, hx, hxy⟩ := hat k y hy
      exact ⟨x, hx, hxy.ow hby⟩
    refine ⟨hH.bs, hH.le, hH.nb, rfl, ?_, ?_, ?_, hH.fr⟩
    · intro k y hy
      obtain ⟨x, hx, hxy⟩ := hat k y hy
      exact hxy.ok hn (wfH_get hw.2 hy) (hH.ok k x hx)
    · intro k y b hy hby
      obtain ⟨x, hx, hbx⟩ := hb k y b hy hby
      exact hH.own k x b hx hbx
    · intro j k y y' b hy hy' hby hby'
      obtain ⟨x, hx, hbx⟩ := hb j y b hy hby
      obtain ⟨x', hx', hbx'⟩ := hb k y' b hy' hby'
      exact hH.sep j k x x' b hx hx' hbx hbx'
end

/-! ### loops -/
def roundQ (again : KS) (Q : KQ) : KQ
  | .normal, t, h => again t h
  | .ret, t, h => Q .ret t h
  | .exit n, t, h => Q (.exit n) t h
  | .goto n, t, h => Q (.goto n) t h

theorem frame_len (s : List (Nat × XV)) : ∀ n i, (frameFrom s i n).length = n
  | 0, _ => rfl
  | n + 1, i => by simp [frameFrom, frame_len s n (i + 1)]

section
variable {C : Cx} (hT : TabOk C.P C.T)

include hT in
theorem loopx {b : Code} {Q : KQ} {ts : List XV} {h : List It} {ι : Type} (S : ι → List (Nat × XV)) (H : ι → List It) (μ : ι → Nat) (i0 : ι) (n : Nat) (hn : n = ts.length) (h0 : Wk ts h (S i0) (H i0))
    (hstep : ∀ i, forceTs (frame n (S i)) fun t => codeX C b (roundQ (fun t h => ∃ j, μ j < μ i ∧ t.length = n ∧ Wk t h (S j) (H j)) Q) t (H i)) : LoopX C b Q ts h := by
  unfold LoopX
  intro w0 F Q' a w hQ hc
  subst hn
  refine wpIn_loop_ghost (fun m a w => ∃ i, μ i = m ∧ Cfg w0 F (frame ts.length (S i)) (H i) a w) (μ i0) ⟨i0, rfl, h0.cfg hc⟩ ?_
  rintro m a w ⟨i, rfl, hc⟩
  have h1 := hstep i
  rw [forceTs_eq] at h1
  refine codeX_sound hT b h1 hc ?_
  intro e t h a w hq hc
  cases e with
  | normal =>
    obtain ⟨j, hlt, hlen, hk⟩ := hq
    exact ⟨μ j, hlt, j, rfl, by rw [← hlen]; exact hk.cfg hc⟩
  | ret => exact hQ .ret _ _ _ _ hq hc
  | exit n => exact hQ (.exit n) _ _ _ _ hq hc
  | goto n => exact hQ (.goto n) _ _ _ _ hq hc

/-! ### scopes -/
def plainQ (Q : KQ) : KQ
  | .normal, t, h => Q .normal t h
  | .ret, t, h => Q .ret t h
  | .exit n, t, h => Q (.exit n) t h
  | .goto _, _, _ => False
def jumpQ (l : Nat) (J : KS) (Q : KQ) : KQ
  | .normal, t, h => Q .normal t h
  | .ret, t, h => Q .ret t h
  | .exit n, t, h => Q (.exit n) t h
  | .goto l', t, h => when (Nat.beq l' l) (J t h)

include hT in
theorem scopex_plain {b : Code} {Q : KQ} {ts : List XV} {h : List It} (hh : codeX C b (plainQ Q) ts h) : ScopeX C b Q ts h := by
  unfold ScopeX
  intro w0 F Q' a w hQ hc
  refine wpIn_scope_straight (codeX_sound hT b hh hc ?_)
  intro e t h a w hq hc
  cases e with
  | normal => exact hQ .normal _ _ _ _ hq hc
  | ret => exact hQ .ret _ _ _ _ hq hc
  | exit n => exact hQ (.exit n) _ _ _ _ hq hc
  | goto n => exact hq.elim

include hT in
theorem scopex {b rest : Code} {Q : KQ} {ts : List XV} {h : List It} {ι : Type} (l : Nat) (hf : findLabel b l = some rest) (S : ι → List (Nat × XV)) (H : ι → List It) (μ : ι → Nat) (n : Nat) (hn : n = ts.length)
    (first : codeX C b (jumpQ l (fun t h => ∃ i, t.length = n ∧ Wk t h (S i) (H i)) Q) ts h)
    (pass : ∀ i, forceTs (frame n (S i)) fun t => codeX C rest (jumpQ l (fun t h => ∃ j, μ j < μ i ∧ t.length = n ∧ Wk t h (S j) (H j)) Q) t (H i)) : ScopeX C b Q ts h := by
  unfold ScopeX
  intro w0 F Q' a w hQ hc
  subst hn
  let I : Nat → Act → World → Prop := fun m a w => ∃ i, μ i = m ∧ Cfg w0 F (frame ts.length (S i)) (H i) a w
  refine wpIn_scope_jumps l (fun a w => ∃ m, I m a w) (fun a w => leastOf (fun m => I m a w)) hf ?_ ?_
  · refine codeX_sound hT b first hc ?_
    intro e t h a w hq hc
    cases e with
    | normal => exact hQ .normal _ _ _ _ hq hc
    | ret => exact hQ .ret _ _ _ _ hq hc
    | exit n => exact hQ (.exit n) _ _ _ _ hq hc
    | goto n =>
      obtain ⟨he, i, hlen, hk⟩ := when_iff hq
      exact ⟨Nat.eq_of_beq_eq_true he, μ i, i, rfl, by rw [← hlen]; exact hk.cfg hc⟩
  · intro a w hI
    obtain ⟨i, hi, hc⟩ := (leastOf_spec hI).1
    have h1 := pass i
    rw [forceTs_eq] at h1
    refine codeX_sound hT rest h1 hc ?_
    intro e t h a' w' hq hc
    cases e with
    | normal => exact hQ .normal _ _ _ _ hq hc
    | ret => exact hQ .ret _ _ _ _ hq hc
    | exit n => exact hQ (.exit n) _ _ _ _ hq hc
    | goto n =>
      obtain ⟨he, j, hlt, hlen, hk⟩ := when_iff hq
      have hI' : I (μ j) a' w' := ⟨j, rfl, by rw [← hlen]; exact hk.cfg hc⟩
      refine ⟨Nat.eq_of_beq_eq_true he, ⟨μ j, hI'⟩, ?_⟩
      have := (leastOf_spec (p := fun m => I m a' w') ⟨_, hI'⟩).2 _ hI'
      have hi' : μ i = leastOf (fun m => I m a w) := hi
      show leastOf (fun m => I m a' w') < leastOf (fun m => I m a w)
      omega
end
end Go.Eng
