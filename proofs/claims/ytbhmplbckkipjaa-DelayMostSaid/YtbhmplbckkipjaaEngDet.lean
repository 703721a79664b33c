/- The engine, part Det: what an operation that leaves the world alone tells is one thing. Nothing of any program is proved here. -/
import Derived.Test.YtbhmplbckkipjaaEngU
namespace Go.Eng
open Go Go.RowKit
set_option linter.unusedVariables false
set_option linter.unusedSimpArgs false
theorem when_eq {b : Bool} {p : Prop} : when b p = (b = true ∧ p) := by cases b <;> simp [when]
theorem kIf_eq {a b : IntKind} {p : Prop} : kIf a b p = (a = b ∧ p) := by
  apply propext; constructor
  · exact kIf_iff
  · rintro ⟨rfl, h⟩; cases a <;> exact h
theorem notZero_eq {l : Bool} {b : Int} {p : Prop} : notZero l b p = (b ≠ 0 ∧ p) := by
  apply propext; constructor
  · exact notZero_iff
  · rintro ⟨hb, h⟩
    cases l with
    | false => exact ⟨hb, h⟩
    | true =>
      match b, hb with
      | .ofNat 0, hb => exact absurd rfl hb
      | .ofNat (_ + 1), _ => exact h
      | .negSucc _, _ => exact h
theorem notNeg_eq {l : Bool} {b : Int} {p : Prop} : notNeg l b p = (0 ≤ b ∧ p) := by
  apply propext; constructor
  · exact notNeg_iff
  · rintro ⟨hb, h⟩
    cases l with
    | false => exact ⟨hb, h⟩
    | true =>
      match b, hb with
      | .ofNat _, _ => exact h
      | .negSucc n, hb => exact absurd hb (by omega)
theorem inside_eq {l : Bool} {i : Int} {n : Nat} {p : Prop} : inside l i n p = ((0 ≤ i ∧ i < (n : Int)) ∧ p) := by
  apply propext; constructor
  · exact inside_iff
  · rintro ⟨hb, h⟩
    cases l with
    | false => exact ⟨hb, h⟩
    | true =>
      match i, hb with
      | .ofNat j, hb =>
        have : Nat.blt j n = true := by
          have h2 : (Int.ofNat j) < (n : Int) := hb.2
          have : j < n := by simpa using h2
          simp only [Nat.blt, Nat.ble_eq]; omega
        simp only [inside, when_eq]; exact ⟨this, h⟩
      | .negSucc n, hb => exact absurd hb.1 (by omega)
theorem upto_eq {l : Bool} {i : Int} {n : Nat} {p : Prop} : upto l i n p = ((0 ≤ i ∧ i ≤ (n : Int)) ∧ p) := by
  apply propext; constructor
  · exact upto_iff
  · rintro ⟨hb, h⟩
    cases l with
    | false => exact ⟨hb, h⟩
    | true =>
      match i, hb with
      | .ofNat j, hb =>
        have : Nat.ble j n = true := by
          have h2 : (Int.ofNat j) ≤ (n : Int) := hb.2
          have : j ≤ n := by simpa using h2
          simpa [Nat.ble_eq] using this
        simp only [upto, when_eq]; exact ⟨this, h⟩
      | .negSucc n, hb => exact absurd hb.1 (by omega)
theorem cutK_eq {l : List XC} {off n : Nat} {k : List XC → Prop} : cutK l off n k = (((l.drop off).take n).length = n ∧ k ((l.drop off).take n)) := by
  unfold cutK; rw [forceL_eq, when_eq]
  apply propext; constructor
  · rintro ⟨h1, h2⟩; exact ⟨Nat.eq_of_beq_eq_true h1, h2⟩
  · rintro ⟨h1, h2⟩; exact ⟨by rw [h1]; simp, h2⟩

/-- One answer. -/
def Det {α : Type} (F : (α → Prop) → Prop) : Prop := ∀ k, F k → ∃ x, k x ∧ ∀ k' : α → Prop, k' x → F k'
theorem Det.ret {α : Type} (x : α) : Det (fun k : α → Prop => k x) := fun k h => ⟨x, h, fun _ h => h⟩
theorem Det.no {α : Type} : Det (fun _ : α → Prop => False) := fun k h => h.elim
theorem Det.and {α : Type} {p : Prop} {F : (α → Prop) → Prop} (h : Det F) : Det (fun k => p ∧ F k) := fun k ⟨hp, hF⟩ => let ⟨x, hk, hx⟩ := h k hF; ⟨x, hk, fun k' h' => ⟨hp, hx k' h'⟩⟩
theorem Det.ex {α β : Type} {F : β → (α → Prop) → Prop} (h : ∀ b, Det (F b)) : Det (fun k => ∃ b, F b k) := fun k ⟨b, hF⟩ => let ⟨x, hk, hx⟩ := h b k hF; ⟨x, hk, fun k' h' => ⟨b, hx k' h'⟩⟩
theorem Det.or {α : Type} {F G : (α → Prop) → Prop} (h : Det F) (h' : Det G) : Det (fun k => F k ∨ G k) := fun k hk => by
  rcases hk with hk | hk
  · obtain ⟨x, h1, h2⟩ := h k hk; exact ⟨x, h1, fun k' hk' => .inl (h2 k' hk')⟩
  · obtain ⟨x, h1, h2⟩ := h' k hk; exact ⟨x, h1, fun k' hk' => .inr (h2 k' hk')⟩
theorem Det.map {α β : Type} {F : (α → Prop) → Prop} (g : α → β) (h : Det F) : Det (fun k : β → Prop => F fun x => k (g x)) := fun k hF => let ⟨x, hk, hx⟩ := h _ hF; ⟨g x, hk, fun k' h' => hx _ h'⟩
theorem Det.bind {α β : Type} {F : (α → Prop) → Prop} {G : α → (β → Prop) → Prop} (h : Det F) (hG : ∀ x, Det (G x)) : Det (fun k : β → Prop => F fun x => G x k) := fun k hF =>
  let ⟨x, hk, hx⟩ := h _ hF
  let ⟨y, hk', hy⟩ := hG x k hk
  ⟨y, hk', fun k' h' => hx _ (hy k' h')⟩
theorem Det.two {α : Type} {c : Bool} {F G : (α → Prop) → Prop} (h : Det F) (h' : Det G) : Det (fun k => (c = true → F k) ∧ (c = false → G k)) := fun k hk => by
  cases c
  · obtain ⟨x, h1, h2⟩ := h' k (hk.2 rfl); exact ⟨x, h1, fun k' hk' => And.intro (fun e => absurd e (by simp)) (fun _ => h2 k' hk')⟩
  · obtain ⟨x, h1, h2⟩ := h k (hk.1 rfl); exact ⟨x, h1, fun k' hk' => And.intro (fun _ => h2 k' hk') (fun e => absurd e (by simp))⟩
theorem mkX_det {agg : Bool} {l : List XC} : Det (mkX agg l) := by
  cases agg
  · match l with
    | [] => exact Det.no
    | [x] => exact Det.ret _
    | _ :: _ :: _ => exact Det.no
  · exact Det.ret _
theorem fieldX_det {T : Tab} {s : TypeId} {x : XV} {f : Nat} : Det (fieldX T s x f) := by
  unfold fieldX
  simp only [cutK_eq]
  cases T s with
  | none => exact Det.no
  | some ti =>
    obtain ⟨_, _, _, _, kd, _⟩ := ti
    cases kd <;> try exact Det.no
    rename_i fs
    dsimp only
    cases fs[f]? with
    | none => exact Det.no
    | some p =>
      dsimp only
      cases T p.2 with
      | none => exact Det.no
      | some fi => cases x <;> first | exact Det.no | exact Det.and mkX_det
theorem indexX_det {T : Tab} {t : TypeId} {x y : XV} : Det (indexX T t x y) := by
  unfold indexX
  simp only [cutK_eq, inside_eq]
  cases y <;> try exact Det.no
  dsimp only
  cases asI _ with
  | none => exact Det.no
  | some p =>
    obtain ⟨l, _, i⟩ := p
    dsimp only
    cases T t with
    | none => exact Det.no
    | some ti =>
      obtain ⟨_, _, _, _, kd, _⟩ := ti
      cases kd <;> try exact Det.no
      · cases x <;> try exact Det.no
        rename_i c
        cases c <;> try exact Det.no
        rename_i v
        cases v <;> first | exact Det.no | exact Det.and (Det.ret _)
      · rename_i e
        cases x <;> try exact Det.no
        cases he : T e with
        | none => simp only [he]; exact Det.no
        | some ei => simp only [he]; exact Det.and (Det.and mkX_det)
theorem extractX_det {x : XV} {i : Nat} : Det (extractX x i) := by
  unfold extractX
  cases x <;> try exact Det.no
  rename_i l
  dsimp only
  cases l[i]? with
  | none => exact Det.no
  | some w => cases w <;> exact Det.ret _
theorem eqC_det {n : Nat} {x y : XC} {k : Bool → Bool → Prop} (h : eqC n x y k) : ∃ l b, k l b ∧ ∀ k' : Bool → Bool → Prop, k' l b → eqC n x y k' := by
  unfold eqC at *
  split at h
  · split at h
    · simp only [kIf_eq] at *; exact ⟨_, _, h.2, fun k' h' => ⟨h.1, h'⟩⟩
    · exact h.elim
  · split at h
    · exact ⟨_, _, h, fun k' h' => h'⟩
    · exact h.elim
  · split at h
    · exact ⟨_, _, h, fun k' h' => h'⟩
    · exact h.elim
  · exact h.elim
theorem eqL_det : ∀ {ns : List Nat} {xs ys : List XC}, Det (eqL ns xs ys)
  | [], [], [], k, h => ⟨_, h, fun _ h => h⟩
  | [n], [x], [y], k, h => by
    obtain ⟨l, b, h1, h2⟩ := eqC_det (show eqC n x y fun _ b => k b from h)
    exact ⟨b, h1, fun k' h' => h2 _ h'⟩
  | n :: m :: ns, x :: xs, y :: ys, k, h => by
    obtain ⟨l, b, h1, h2⟩ := eqC_det (show eqC n x y fun l b => _ from h)
    cases l <;> cases b <;> (obtain ⟨r, h3, h4⟩ := eqL_det _ h1; exact ⟨_, h3, fun k' h' => h2 _ (h4 _ h')⟩)
  | [n], x :: x' :: xs, y :: ys, k, h => by
    obtain ⟨l, b, h1, h2⟩ := eqC_det (show eqC n x y fun l b => _ from h)
    exfalso; revert h1; cases l <;> cases b <;> simp [eqL]
  | [n], [x], y :: y' :: ys, k, h => by
    obtain ⟨l, b, h1, h2⟩ := eqC_det (show eqC n x y fun l b => _ from h)
    exfalso; revert h1; cases l <;> cases b <;> simp [eqL]
  | [], [], _ :: _, k, h => by simp [eqL] at h
  | [], _ :: _, _, k, h => by simp [eqL] at h
  | n :: ns, [], _, k, h => by cases ns <;> simp [eqL] at h
  | n :: ns, _ :: _, [], k, h => by cases ns <;> simp [eqL] at h
theorem intBin_det {op : BinOp} {kd : IntKind} {a b : Int} {l : Bool} : Det (intBin op kd a b l) := by
  unfold intBin
  cases op <;> first | exact Det.ret _ | exact Det.no
theorem binC_det {op : BinOp} {x y : XC} : Det (binC op x y) := by
  unfold binC
  simp only [kIf_eq, notZero_eq, notNeg_eq]
  cases hx : asI x with
  | some p =>
    obtain ⟨l1, k1, a⟩ := p
    cases hy : asI y with
    | some q =>
      obtain ⟨l2, k2, b⟩ := q
      cases op <;> first | exact Det.and (Det.ret _) | exact Det.and (Det.and (Det.ret _)) | exact Det.and intBin_det
    | none =>
      cases asS x <;> try exact Det.no
      cases asS y <;> try exact Det.no
      cases op <;> first | exact Det.no | exact Det.ret _ | exact Det.and (Det.ret _)
  | none =>
    cases asS x <;> try exact Det.no
    cases asS y <;> try exact Det.no
    cases op <;> first | exact Det.no | exact Det.ret _ | exact Det.and (Det.ret _)
theorem binX_det {T : Tab} {op : BinOp} {ty : TypeId} {x y : XV} : Det (binX T op ty x y) := by
  unfold binX
  cases x <;> cases y <;> try exact Det.no
  · rename_i x y
    dsimp only
    cases T ty with
    | none => exact binC_det.map _
    | some ti =>
      obtain ⟨_, _, _, _, kd, _⟩ := ti
      cases kd <;> try exact binC_det.map _
      · dsimp only
        cases asB x <;> try exact Det.no
        cases asB y <;> try exact Det.no
        cases op <;> first | exact Det.no | exact Det.ret _
      · dsimp only
        cases eqNil x y <;> try exact Det.no
        cases op <;> first | exact Det.no | exact Det.ret _
  · rename_i xs ys
    dsimp only
    cases T ty with
    | none => exact Det.no
    | some ti =>
      obtain ⟨_, _, agg, _, kd, fl⟩ := ti
      cases fl <;> cases agg <;> try exact Det.no
      cases op <;> first | exact Det.no | exact eqL_det.map _
theorem unX_det {op : UnOp} {x : XV} : Det (unX op x) := by
  unfold unX
  cases op <;> cases x <;> (try exact Det.no) <;> (rename_i c; cases c <;> first | exact Det.no | exact Det.ret _)
theorem convX_det {T : Tab} {s d : TypeId} {x : XV} : Det (convX T s d x) := by
  unfold convX
  cases T s <;> cases T d <;> try exact Det.no
  rename_i a b
  obtain ⟨_, _, _, _, ka, _⟩ := a
  obtain ⟨_, _, _, _, kb, _⟩ := b
  cases kb <;> (try (cases ka <;> exact Det.no)) <;> cases x <;> (try (cases ka <;> exact Det.no)) <;> rename_i c <;> cases c <;>
    (try (cases ka <;> first | exact Det.no | exact Det.ret _))
  all_goals (rename_i v; cases ka <;> cases v <;> first | exact Det.no | exact Det.ret _)
theorem nilX_det {x : XV} : Det (nilX x) := by
  unfold nilX
  cases x <;> (try exact Det.no)
  rename_i c
  cases c <;> (try first | exact Det.no | exact Det.ret _)
  rename_i v
  cases v <;> (try exact Det.no)
  rename_i f a b
  cases f <;> first | exact Det.no | exact Det.ret _
theorem maxX_det {mx : Bool} {x y : XV} : Det (maxX mx x y) := by
  unfold maxX
  cases x <;> cases y <;> (try exact Det.no)
  rename_i x y
  dsimp only
  cases asI x <;> cases asI y <;> (try exact Det.no)
  cases mx <;> exact Det.ret _
theorem lenX_det {T : Tab} {t : TypeId} {x : XV} {h : List It} : Det (lenX T t x h) := by
  unfold lenX
  cases T t with
  | none => exact Det.no
  | some ti =>
    obtain ⟨_, _, _, _, kd, _⟩ := ti
    cases kd <;> (try first | exact Det.no | exact Det.ret _)
    · cases x <;> (try exact Det.no)
      rename_i c
      cases c <;> (try exact Det.no)
      rename_i v
      cases v <;> first | exact Det.no | exact Det.ret _
    · cases x <;> (try exact Det.no)
      rename_i c
      intro k hk
      dsimp only at hk ⊢
      split at hk
      all_goals first
        | exact hk.elim
        | exact ⟨_, hk, fun _ h => h⟩
        | (rename_i e; cases e; exact ⟨_, hk, fun _ h => h⟩)
        | (rename_i it e; split at hk <;> first | exact hk.elim | exact ⟨_, hk, fun _ h => h⟩)
theorem callX_det {T : Tab} {ts : List XV} {h : List It} {c : Call} : Det (callX T ts h c) := by
  intro k hh
  unfold callX at hh
  split at hh
  · rename_i e1 e2 e3; obtain ⟨x, h1, h2⟩ := lenX_det k hh; exact ⟨x, h1, fun k' h' => by unfold callX; rw [e1, e2, e3]; exact h2 k' h'⟩
  · rename_i e1 e2; obtain ⟨x, h1, h2⟩ := maxX_det k hh; exact ⟨x, h1, fun k' h' => by unfold callX; rw [e1, e2]; exact h2 k' h'⟩
  · rename_i e1 e2; obtain ⟨x, h1, h2⟩ := maxX_det k hh; exact ⟨x, h1, fun k' h' => by unfold callX; rw [e1, e2]; exact h2 k' h'⟩
  · exact hh.elim
theorem fillX_det {place : Nat → Option (Nat × Nat)} : ∀ {ps : List (Nat × XV)} {cs : List XC}, Det (fillX place ps cs)
  | [], cs => Det.ret _
  | (i, x) :: ps, cs => by
    show Det (fun k => (match place i, cells x with | some (o, z), some l => when (Nat.beq l.length z && Nat.ble (o + z) cs.length) (forceL (putL cs o l) fun cs => fillX place ps cs k) | _, _ => False))
    simp only [when_eq, forceL_eq]
    cases place i <;> cases cells x <;> (try exact Det.no)
    exact Det.and fillX_det
theorem buildX_det {T : Tab} {t : TypeId} {ps : List (Nat × XV)} : Det (buildX T t ps) := by
  unfold buildX
  simp only [when_eq, forceL_eq]
  cases T t with
  | none => exact Det.no
  | some ti =>
    obtain ⟨_, _, _, _, kd, _⟩ := ti
    cases kd <;> (try exact Det.no)
    · exact Det.and (fillX_det.map _)
    · rename_i n e
      cases he : T e with
      | none => simp only [he]; exact Det.no
      | some ei => simp only [he]; exact fillX_det.map _
theorem loadX_det {T : Tab} {t : TypeId} {x : XV} {h : List It} {rd : Nat → Bool} : Det (loadX T t x h rd) := by
  unfold loadX
  simp only [when_eq, cutK_eq, genK_eq]
  cases T t with
  | none => exact Det.no
  | some ti =>
    cases x <;> (try exact Det.no)
    rename_i c
    cases c <;> (try exact Det.no)
    · refine Det.and ?_
      rename_i it _
      cases itemAt h it <;> first | exact Det.no | exact Det.and mkX_det
    · exact Det.and mkX_det
    · refine Det.and ?_
      rename_i it _ _ _
      cases itemAt h it <;> first
        | exact Det.no
        | exact Det.and (Det.ex fun cs => Det.and (Det.and mkX_det))
        | (refine Det.and ?_
           rename_i o
           cases o with
           | none => exact Det.ex fun a => Det.and (Det.and mkX_det)
           | some p => exact Det.or (Det.and (Det.and mkX_det)) (Det.and (Det.ex fun a => Det.and (Det.and mkX_det))))
theorem faddrX_det {T : Tab} {s : TypeId} {x : XV} {f : Nat} : Det (faddrX T s x f) := by
  unfold faddrX
  simp only [when_eq]
  cases T s with
  | none => exact Det.no
  | some ti =>
    obtain ⟨_, _, _, _, kd, _⟩ := ti
    cases kd <;> (try exact Det.no)
    rename_i fs
    dsimp only
    cases fs[f]? with
    | none => exact Det.no
    | some p =>
      dsimp only
      cases T p.2 with
      | none => exact Det.no
      | some fi =>
        refine Det.and ?_
        cases x <;> (try exact Det.no)
        rename_i c
        cases c <;> first | exact Det.no | exact Det.ret _
theorem iaddrX_det {T : Tab} {t : TypeId} {x y : XV} {h : List It} : Det (iaddrX T t x y h) := by
  unfold iaddrX
  simp only [when_eq, inside_eq]
  cases y <;> (try exact Det.no)
  rename_i y
  dsimp only
  cases asI y with
  | none => exact Det.no
  | some p =>
    obtain ⟨l, _, i⟩ := p
    dsimp only
    cases T t with
    | none => exact Det.no
    | some ti =>
      obtain ⟨_, _, _, _, kd, _⟩ := ti
      cases kd <;> (try exact Det.no)
      · rename_i n e
        cases he : T e with
        | none => simp only [he]; exact Det.no
        | some ei =>
          simp only [he]
          refine Det.and ?_
          cases x <;> (try exact Det.no)
          rename_i c
          cases c <;> first | exact Det.no | exact Det.ret _
      · rename_i e
        cases he : T e with
        | none => simp only [he]; exact Det.no
        | some ei =>
          simp only [he]
          cases x <;> (try exact Det.no)
          rename_i c
          cases c <;> (try first | exact Det.no | exact Det.and (Det.and (Det.ret _)))
          rename_i it
          cases hi : itemAt h it <;> simp only [hi] <;> first | exact Det.no | exact Det.and (Det.and (Det.ret _))
theorem sliceX_det {T : Tab} {t : TypeId} {x : XV} {lo hi : Option XV} : Det (sliceX T t x lo hi) := by
  unfold sliceX
  simp only [when_eq, upto_eq]
  cases T t with
  | none => exact Det.no
  | some ti =>
    obtain ⟨_, _, _, _, kd, _⟩ := ti
    cases kd <;> (try exact Det.no)
    · cases x <;> (try exact Det.no)
      rename_i c
      cases c <;> (try exact Det.no)
      rename_i v
      cases v <;> (try exact Det.no)
      dsimp only
      cases bnd lo with
      | none => exact Det.no
      | some a => cases bnd hi with
        | none => cases a <;> exact Det.no
        | some b => cases a <;> cases b <;> first | exact Det.ret _ | exact Det.and (Det.ret _)
    · rename_i n e
      cases he : T e with
      | none => simp only [he]; exact Det.no
      | some ei =>
        simp only [he]
        cases x <;> (try exact Det.no)
        rename_i c
        cases c <;> (try exact Det.no)
        cases bnd lo with
        | none => exact Det.no
        | some a => cases bnd hi with
          | none => cases a <;> exact Det.no
          | some b => cases a <;> cases b <;> first | exact Det.no | exact Det.and (Det.ret _) | exact Det.and (Det.and (Det.ret _))
    · rename_i e
      cases he : T e with
      | none => simp only [he]; exact Det.no
      | some ei =>
        simp only [he]
        cases x <;> (try exact Det.no)
        rename_i c
        cases c <;> (try exact Det.no)
        refine Det.and ?_
        cases bnd lo with
        | none => exact Det.no
        | some a => cases bnd hi with
          | none => cases a <;> exact Det.no
          | some b => cases a <;> cases b <;> first | exact Det.no | exact Det.ret _ | exact Det.and (Det.ret _)
theorem valX_det {T : Tab} {ts : List XV} {h : List It} {rd : Nat → Bool} {op : Op} : Det (valX T ts h rd op) := by
  unfold valX
  cases op <;> (try exact Det.no)
  case move => exact Det.ret _
  case assign => exact Det.ret _
  case pick c a b =>
    show Det (fun k => match opv ts c with
      | .c .bt => k (opv ts a)
      | .c .bf => k (opv ts b)
      | .c (.b x) => (x = true → k (opv ts a)) ∧ (x = false → k (opv ts b))
      | _ => False)
    cases opv ts c <;> (try exact Det.no)
    rename_i c
    cases c <;> first | exact Det.no | exact Det.ret _ | exact Det.two (Det.ret _) (Det.ret _)
  case build => exact buildX_det
  case load => exact loadX_det
  case nilCheck => exact nilX_det
  case binOp => exact binX_det
  case unOp => exact unX_det
  case convert => exact convX_det
  case slice t x lo hi mx => cases mx <;> first | exact Det.no | exact sliceX_det
  case fieldAddr => exact faddrX_det
  case field => exact fieldX_det
  case indexAddr => exact iaddrX_det
  case index => exact indexX_det
  case extract => exact extractX_det
  case makeFunc fn first caps =>
    cases fn <;> (try exact Det.no)
    rename_i g; show Det (fun k : XV → Prop => match first.toList, capsX (List.map (opv ts) caps.toList) with | [], some l => forceL l fun l => k (.c (.fn g l.length (nthC l))) | _, _ => False)
    simp only [forceL_eq]
    cases first.toList <;> cases capsX (List.map (opv ts) caps.toList) <;> first | exact Det.no | exact Det.ret _
  case call => exact callX_det
end Go.Eng
