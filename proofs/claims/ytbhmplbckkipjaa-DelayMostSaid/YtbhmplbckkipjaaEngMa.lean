/- The engine, part Ma: values that say less; nothing of any program is proved here. -/
import Derived.Test.YtbhmplbckkipjaaEngM
namespace Go.Eng
open Go Go.RowKit
set_option linter.unusedSimpArgs false
set_option linter.unusedVariables false

/-- A cell that says at least what another one says. -/
def entC : XC → XC → Prop
  | .il k n, y => (match y with | .i k' m => k = k' ∧ n = m | .il k' m => k = k' ∧ n = m | .un => True | y => XC.il k n = y)
  | .i k n, y => (match y with | .i k' m => k = k' ∧ n = m | .il k' m => k = k' ∧ n = m | .un => True | y => XC.i k n = y)
  | .bt, y => (match y with | .b b => b = true | .un => True | y => XC.bt = y)
  | .bf, y => (match y with | .b b => b = false | .un => True | y => XC.bf = y)
  | .b x, y => (match y with | .b b => x = b | .bt => x = true | .bf => x = false | .un => True | y => XC.b x = y)
  | .v x, y => (match y with | .v x' => x = x' | .rs n _ _ => x = .slice none 0 0 ∧ n = 0 | .un => True | y => XC.v x = y)
  | .rs n z f, y => (match y with | .rs n' z' g => n = n' ∧ z = z' ∧ (∀ i, i < n' → ∀ j, j < z' → entC (f i j) (g i j)) | .un => True | y => XC.rs n z f = y)
  | .ep m f, y => (match y with | .ep m' g => m' ≤ m ∧ (∀ j, j < m' → entC (f j) (g j)) | .un => True | y => XC.ep m f = y)
  | x, y => y = .un ∨ x = y
def entL : List XC → List XC → Prop
  | [], [] => True
  | x :: l, y :: m => entC x y ∧ entL l m
  | _, _ => False
def entW : XW → XW → Prop
  | .c x, .c y => entC x y
  | .a l, .a m => entL l m
  | _, _ => False
def entWs : List XW → List XW → Prop
  | [], [] => True
  | x :: l, y :: m => entW x y ∧ entWs l m
  | _, _ => False
def entV : XV → XV → Prop
  | .c x, .c y => entC x y
  | .a l, .a m => entL l m
  | .t l, .t m => entWs l m
  | x, y => y = .un ∨ x = y

theorem entC_st {x y : XC} (h : entC x y) (hs : St x) : St y := by
  cases x <;> cases y <;> simp only [entC] at h <;> first | trivial | (exact hs.elim) | (cases h; done) | (rcases h with h | h <;> first | (cases h; done) | (cases h; exact hs)) | (simp at h; done)
theorem entC_rel {E : Env} : ∀ {x y : XC} {v : Value}, entC x y → RelC E x v → RelC E y v
  | .rs n z f, y, v, h, hr => by
    have hone := hr.one
    cases y <;> simp only [entC] at h
    case un => exact hone
    case rs n' z' g =>
      obtain ⟨rfl, rfl, hfg⟩ := h
      obtain ⟨A, c, rfl, h1, h2, h3⟩ := hr
      refine ⟨A, c, rfl, h1, h2, fun i hi => ?_⟩
      obtain ⟨ad, hA, h4⟩ := h3 i hi
      refine ⟨ad, hA, fun j hj => ?_⟩
      obtain ⟨h5, u, h6, h7, h8⟩ := h4 j hj
      exact ⟨h5, u, h6, entC_st (hfg i hi j hj) h7, entC_rel (hfg i hi j hj) h8⟩
    all_goals cases h
  | .ep m f, y, v, h, hr => by
    have hone := hr.one
    cases y <;> simp only [entC] at h
    case un => exact hone
    case ep m' g =>
      obtain ⟨hm, hfg⟩ := h
      obtain ⟨ad, rfl, h3⟩ := hr
      refine ⟨ad, rfl, fun j hj => ?_⟩
      obtain ⟨h5, u, h6, h7, h8⟩ := h3 j (by omega)
      exact ⟨h5, u, h6, entC_st (hfg j hj) h7, entC_rel (hfg j hj) h8⟩
    all_goals cases h
  | .v x, y, v, h, hr => by
    have hone := hr.one
    cases y <;> simp only [entC] at h <;> (first
      | exact hone
      | (subst h; exact hr)
      | (cases h; done)
      | skip)
    obtain ⟨rfl, rfl⟩ := h
    obtain ⟨rfl, _⟩ := hr
    exact ⟨none, 0, rfl, Nat.le_refl _, by simp [maxLen], fun i hi => by omega⟩
  | .il _ _, y, v, h, hr => by
    have hone := hr.one
    cases y <;> simp only [entC] at h <;> (first | exact hone | (obtain ⟨rfl, rfl⟩ := h; exact hr) | (cases h; done))
  | .i _ _, y, v, h, hr => by
    have hone := hr.one
    cases y <;> simp only [entC] at h <;> (first | exact hone | (obtain ⟨rfl, rfl⟩ := h; exact hr) | (cases h; done))
  | .bt, y, v, h, hr => by
    have hone := hr.one
    cases y <;> simp only [entC] at h <;> (first | exact hone | (subst h; exact hr) | (cases h; done) | exact hr)
  | .bf, y, v, h, hr => by
    have hone := hr.one
    cases y <;> simp only [entC] at h <;> (first | exact hone | (subst h; exact hr) | (cases h; done) | exact hr)
  | .b _, y, v, h, hr => by
    have hone := hr.one
    cases y <;> simp only [entC] at h <;> (first | exact hone | (subst h; exact hr) | (cases h; done))
  | .un, y, v, h, hr => by
    have hone := hr.one
    simp only [entC] at h
    rcases h with h | h <;> subst h <;> exact hr
  | .p _ _, y, v, h, hr => by
    have hone := hr.one
    simp only [entC] at h
    rcases h with h | h <;> subst h <;> first | exact hone | exact hr
  | .ow _, y, v, h, hr => by
    have hone := hr.one
    simp only [entC] at h
    rcases h with h | h <;> subst h <;> first | exact hone | exact hr
  | .q _ _ _ _, y, v, h, hr => by
    have hone := hr.one
    simp only [entC] at h
    rcases h with h | h <;> subst h <;> first | exact hone | exact hr
  | .sp _ _ _ _, y, v, h, hr => by
    have hone := hr.one
    simp only [entC] at h
    rcases h with h | h <;> subst h <;> first | exact hone | exact hr
  | .mp _, y, v, h, hr => by
    have hone := hr.one
    simp only [entC] at h
    rcases h with h | h <;> subst h <;> first | exact hone | exact hr
  | .fn _ _ _, y, v, h, hr => by
    have hone := hr.one
    simp only [entC] at h
    rcases h with h | h <;> subst h <;> first | exact hone | exact hr
theorem entL_rel {E : Env} : ∀ {l m : List XC} {vs : List Value}, entL l m → RelL E l vs → RelL E m vs
  | [], [], _, _, h => h
  | _ :: _, _ :: _, [], _, h => h.elim
  | _ :: _, _ :: _, _ :: _, he, h => ⟨entC_rel he.1 h.1, entL_rel he.2 h.2⟩
  | [], _ :: _, _, he, _ => he.elim
  | _ :: _, [], _, he, _ => he.elim
theorem entW_rel {E : Env} {x y : XW} {v : Value} (h : entW x y) (hr : RelW E x v) : RelW E y v := by
  cases x <;> cases y
  · exact entC_rel h hr
  · exact h.elim
  · exact h.elim
  · obtain ⟨vs, e, h1⟩ := hr; exact ⟨vs, e, entL_rel h h1⟩
theorem entWs_rel {E : Env} : ∀ {l m : List XW} {vs : List Value}, entWs l m → RelWs E l vs → RelWs E m vs
  | [], [], _, _, h => h
  | _ :: _, _ :: _, [], _, h => h.elim
  | _ :: _, _ :: _, _ :: _, he, h => ⟨entW_rel he.1 h.1, entWs_rel he.2 h.2⟩
  | [], _ :: _, _, he, _ => he.elim
  | _ :: _, [], _, he, _ => he.elim
theorem entV_rel {E : Env} {x y : XV} {v : Value} (h : entV x y) (hr : RelV E x v) : RelV E y v := by
  cases x <;> cases y <;> simp only [entV] at h <;> (first
    | exact trivial
    | exact entC_rel h hr
    | (obtain ⟨vs, e, h1⟩ := hr; exact ⟨vs, e, entL_rel h h1⟩)
    | (obtain ⟨vs, e, h1⟩ := hr; exact ⟨vs, e, entWs_rel h h1⟩)
    | (rcases h with h | h <;> cases h))

/-- Rows alike. -/
def entLL : List (List XC) → List (List XC) → Prop
  | [], [] => True
  | x :: l, y :: m => entL x y ∧ entLL l m
  | _, _ => False
theorem entC_refl : ∀ x : XC, entC x x
  | .rs n z f => ⟨rfl, rfl, fun i _ j _ => entC_refl (f i j)⟩
  | .ep m f => ⟨Nat.le_refl _, fun j _ => entC_refl (f j)⟩
  | .un => by simp [entC] | .il _ _ => by simp [entC] | .i _ _ => by simp [entC] | .bt => by simp [entC] | .bf => by simp [entC] | .b _ => by simp [entC]
  | .p _ _ => by simp [entC] | .ow _ => by simp [entC] | .q _ _ _ _ => by simp [entC] | .sp _ _ _ _ => by simp [entC] | .mp _ => by simp [entC] | .fn _ _ _ => by simp [entC] | .v _ => by simp [entC]
theorem entC_of_eq {x y : XC} (h : x = y) : entC x y := h ▸ entC_refl x
/-- All arguments. -/
def entVs : List XV → List XV → Prop
  | [], [] => True
  | x :: l, y :: m => entV x y ∧ entVs l m
  | _, _ => False
theorem entVs_rel {E : Env} : ∀ {l m : List XV} {us : List Value}, entVs l m → RelTs E l us → RelTs E m us
  | [], [], _, _, h => h
  | _ :: _, _ :: _, _ :: _, he, h => ⟨entV_rel he.1 h.1, entVs_rel he.2 h.2⟩
  | _ :: _, _ :: _, [], _, h => h.elim
  | [], _ :: _, _, he, _ => he.elim
  | _ :: _, [], _, he, _ => he.elim
theorem entL_refl : ∀ l : List XC, entL l l
  | [] => trivial
  | x :: l => ⟨entC_refl x, entL_refl l⟩
theorem entLL_refl : ∀ l : List (List XC), entLL l l
  | [] => trivial
  | x :: l => ⟨entL_refl x, entLL_refl l⟩
theorem entW_refl (x : XW) : entW x x := by cases x with | c x => exact entC_refl x | a l => exact entL_refl l
theorem entWs_refl : ∀ l : List XW, entWs l l
  | [] => trivial
  | x :: l => ⟨entW_refl x, entWs_refl l⟩
theorem entV_refl (y : XV) : entV y y := by
  cases y with
  | un => simp [entV]
  | c x => exact entC_refl x
  | a l => exact entL_refl l
  | t l => exact entWs_refl l
theorem entLL_of_eq {l m : List (List XC)} (h : l = m) : entLL l m := h ▸ entLL_refl l
theorem entLL_append : ∀ {l l' m m' : List (List XC)}, entLL l m → entLL l' m' → entLL (l ++ l') (m ++ m')
  | [], _, [], _, _, h => h
  | _ :: _, _, _ :: _, _, h, h' => ⟨h.1, entLL_append h.2 h'⟩
  | [], _, _ :: _, _, h, _ => h.elim
  | _ :: _, _, [], _, h, _ => h.elim
theorem entL_len : ∀ {l m : List XC}, entL l m → l.length = m.length
  | [], [], _ => rfl
  | _ :: _, _ :: _, h => by simp [entL_len h.2]
  | [], _ :: _, h => h.elim
  | _ :: _, [], h => h.elim
theorem entLL_len : ∀ {l m : List (List XC)}, entLL l m → l.length = m.length
  | [], [], _ => rfl
  | _ :: _, _ :: _, h => by simp [entLL_len h.2]
  | [], _ :: _, h => h.elim
  | _ :: _, [], h => h.elim
theorem entL_append : ∀ {l l' m m' : List XC}, entL l m → entL l' m' → entL (l ++ l') (m ++ m')
  | [], _, [], _, _, h => h
  | _ :: _, _, _ :: _, _, h, h' => ⟨h.1, entL_append h.2 h'⟩
  | [], _, _ :: _, _, h, _ => h.elim
  | _ :: _, _, [], _, h, _ => h.elim
theorem entLL_flat : ∀ {l m : List (List XC)}, entLL l m → entL l.flatten m.flatten
  | [], [], _ => trivial
  | _ :: _, _ :: _, h => by rw [List.flatten_cons, List.flatten_cons]; exact entL_append h.1 (entLL_flat h.2)
  | [], _ :: _, h => h.elim
  | _ :: _, [], h => h.elim
theorem entL_st : ∀ {l m : List XC}, entL l m → (∀ x ∈ l, St x) → ∀ x ∈ m, St x
  | [], [], _, _ => by simp
  | x :: l, y :: m, h, hs => by
    intro z hz
    rcases List.mem_cons.1 hz with rfl | hz
    · exact entC_st h.1 (hs _ (by simp))
    · exact entL_st h.2 (fun w hw => hs w (by simp [hw])) z hz
  | [], _ :: _, h, _ => h.elim
  | _ :: _, [], h, _ => h.elim
theorem entLL_lens {z : Nat} : ∀ {l m : List (List XC)}, entLL l m → (∀ x ∈ l, x.length = z) → ∀ x ∈ m, x.length = z
  | [], [], _, _ => by simp
  | x :: l, y :: m, h, hs => by
    intro w hw
    rcases List.mem_cons.1 hw with rfl | hw
    · rw [← entL_len h.1]; exact hs _ (by simp)
    · exact entLL_lens h.2 (fun u hu => hs u (by simp [hu])) w hw
  | [], _ :: _, h, _ => h.elim
  | _ :: _, [], h, _ => h.elim
end Go.Eng
