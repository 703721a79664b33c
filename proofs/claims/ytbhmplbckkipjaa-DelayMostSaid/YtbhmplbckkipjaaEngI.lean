/- The engine, part I: every operation that makes memory or writes it, under one name; nothing of any program is proved here. -/
import Derived.Test.YtbhmplbckkipjaaEngH
namespace Go.Eng
open Go Go.RowKit
set_option linter.unusedSimpArgs false
set_option linter.unusedVariables false

def allSt : List XC → Bool
  | [] => true
  | x :: l => (match stB x with | true => allSt l | false => false)
theorem allSt_iff : ∀ {l : List XC}, allSt l = true → ∀ x ∈ l, St x
  | y :: l, h, x, hx => by
    unfold allSt at h
    split at h
    · rename_i h1
      rcases List.mem_cons.1 hx with rfl | hx
      · exact stB_iff h1
      · exact allSt_iff h x hx
    · cases h

def chunk (z : Nat) : Nat → List XC → List (List XC)
  | 0, _ => []
  | n + 1, l => l.take z :: chunk z n (l.drop z)
theorem chunk_flat (z : Nat) : ∀ (n : Nat) (l : List XC), l.length = n * z → (chunk z n l).flatten = l ∧ (∀ x ∈ chunk z n l, x.length = z) ∧ (chunk z n l).length = n
  | 0, l, h => by simp at h; subst h; simp [chunk]
  | n + 1, l, h => by
    have h' : l.length = n * z + z := by rw [h, Nat.succ_mul]
    obtain ⟨h1, h2, h3⟩ := chunk_flat z n (l.drop z) (by simp; omega)
    refine ⟨by simp [chunk, h1], ?_, by simp [chunk, h3]⟩
    intro x hx
    simp only [chunk, List.mem_cons] at hx
    rcases hx with rfl | hx
    · simp; omega
    · exact h2 x hx
def forceLL : List (List XC) → (List (List XC) → Prop) → Prop
  | [], k => k []
  | a :: l, k => forceL a fun a => forceLL l fun l => k (a :: l)
theorem forceLL_eq : ∀ (l : List (List XC)) (k : List (List XC) → Prop), forceLL l k = k l
  | [], _ => rfl
  | a :: l, k => by simp only [forceLL, forceL_eq, forceLL_eq l]

def rowsOf (n z : Nat) (f : Nat → Nat → XC) : List (List XC) := (List.range n).map fun i => (List.range z).map (f i)
def bytesOf (s : ByteArray) : List (List XC) := s.data.toList.map fun b => [.i .u8 b.toNat]

/-- The rows that are appended. -/
def srcX (ei : TI) (h : List It) (x : XV) (k : List (List XC) → Prop) : Prop :=
  match x with
  | .c (.ow it) => (match itemAt h it with | .row _ z ys => when (Nat.beq z ei.size) (k ys) | _ => False)
  | .c (.rs n z f) => when (Nat.beq z ei.size) (k (rowsOf n z f))
  | .c (.v (.slice none 0 0)) => k []
  | _ => False

abbrev KE := XV → List XV → List It → Prop

def appX (T : Tab) (t : TypeId) (dst src : XV) (ts : List XV) (h : List It) (k : KE) : Prop :=
  match T t with
  | some ti => (match ti.kd with
    | .sl e => (match T e with
      | some ei => when (Nat.blt 0 ei.size && Nat.ble ei.bytes 100000) (srcX ei h src fun ys => (match dst with
        | .c (.v (.slice none 0 0)) => ys.length ≤ 1000000000 ∧ lenK h fun n => snocH h (.row e ei.size ys) fun h' => k (.c (.ow n)) ts h'
        | .c (.ow it) => (match itemAt h it with
          | .row e' z xs => when (Nat.beq e' e && Nat.beq z ei.size) (xs.length + ys.length ≤ 1000000000 ∧ killTs it ts fun ts => killH it h fun h => setH h it (.row e' z (xs ++ ys)) fun h => k (.c (.ow it)) ts h)
          | .prow e' z as none => when (Nat.beq e' e && Nat.beq z ei.size) (as.length + ys.length ≤ 1000000000 ∧ killTs it ts fun ts => killH it h fun h => setH h it (.prow e' z (as ++ ys.map StL) none) fun h => k (.c (.ow it)) ts h)
          | _ => False)
        | _ => False))
      | none => False)
    | _ => False)
  | none => False

def storeX (T : Tab) (t : TypeId) (a x : XV) (ts : List XV) (h : List It) (k : KE) : Prop :=
  match T t, cells x with
  | some ti, some l => (match a with
    | .c (.p it off) => (match itemAt h it with
      | .cells ty cs => when (Nat.beq l.length ti.size && Nat.ble (off + ti.size) cs.length) (forceL (putL cs off l) fun cs => setH h it (.cells ty cs) fun h => k .un ts h)
      | _ => False)
    | .c (.q it i z off) => (match itemAt h it with
      | .row e z' xs => when (Nat.beq z z' && Nat.beq l.length ti.size && Nat.ble (off + ti.size) z && allSt l) (∃ cs, xs[i]? = some cs ∧ setH h it (.row e z (xs.set i (putL cs off l))) fun h => k .un ts h)
      | .prow e z' as (some (i', cs)) => when (Nat.beq z z' && Nat.beq l.length ti.size && Nat.ble (off + ti.size) z) (i = i' ∧ forceL (putL cs off l) fun cs => setH h it (.prow e z as (some (i', cs))) fun h => k .un ts h)
      | .prow e z' as none => when (Nat.beq z z' && Nat.beq l.length ti.size && Nat.beq off 0 && Nat.beq ti.size z && allSt l) (i < as.length ∧ setH h it (.prow e z (as.set i (StL l)) none) fun h => k .un ts h)
      | _ => False)
    | _ => False)
  | _, _ => False

def repX (n : Nat) (l : List XC) : List XC := (List.replicate n l).flatten

/-- What an operation that makes memory, or writes it, leaves. -/
def effX (T : Tab) (ts : List XV) (h : List It) (op : Op) (k : KE) : Prop :=
  match op with
  | .alloc t => (match T t with
    | some ti => forceL (zeroX ti.zero) fun z => lenK h fun n => snocH h (.cells t z) fun h' => k (.c (.p n 0)) ts h'
    | none => False)
  | .box t x => (match cells (opv ts x) with
    | some l => forceL l fun l => lenK h fun n => snocH h (.cells t l) fun h' => k (.c (.p n 0)) ts h'
    | none => False)
  | .buildSlice t n ps => (match T t with
    | some ti => (match ti.kd with
      | .sl e => (match T e with
        | some ei => when (Nat.blt 0 (n * ei.size) && Nat.ble (n * ei.size) 10000) (forceL (repX n (zeroX ei.zero)) fun z =>
            fillX (fun i => some (i * ei.size, ei.size)) (ps.toList.map fun p => (p.1, opv ts p.2)) z fun r => when (Nat.beq r.length (n * ei.size) && allSt r)
              (forceLL (chunk ei.size n r) fun xs => lenK h fun m => snocH h (.row e ei.size xs) fun h' => k (.c (.ow m)) ts h'))
        | none => False)
      | _ => False)
    | none => False)
  | .makeSlice t n c => (match T t, opv ts n, opv ts c with
    | some ti, .c n, .c c => (match ti.kd, asI n, asI c with
      | .sl e, some (_, _, n), some (_, _, c) => (match T e with
        | some ei => when (Nat.blt 0 ei.size && Nat.ble ei.bytes 100000 && allSt (zeroX ei.zero)) ((0 ≤ n ∧ n ≤ c ∧ c ≤ 1000000000) ∧ lenK h fun m => snocH h (.row e ei.size (List.replicate n.toNat (zeroX ei.zero))) fun h' => k (.c (.ow m)) ts h')
        | none => False)
      | _, _, _ => False)
    | _, _, _ => False)
  | .store t a x => storeX T t (opv ts a) (opv ts x) ts h k
  | .call c => (match c.callee, c.args.toList, c.argTypes.toList with
    | .builtin .append, [d, s], [t, t'] => when (Nat.beq t t') (appX T t (opv ts d) (opv ts s) ts h k)
    | _, _, _ => False)
  | _ => False

section
variable {P : Program} {T : Tab} (hT : TabOk P T) {E : Env} {h : List It} {w0 : Org} {w : World} {F : Nat → Prop}

/-- But for one item's block, and for new blocks, memory is as it was. -/
def Keep (E : Env) (h : List It) (t : Option Nat) (w w' : World) : Prop :=
  w.heap.size ≤ w'.heap.size ∧ ∀ b, b < w.heap.size → (∀ (k : Nat) (x : It), t = some k → h[k]? = some x → ¬ Ow E k x b) → w'.heap[b]? = w.heap[b]?
/-- Whatever else there was stands where it stood; what is new lies behind. -/
structure After (E : Env) (h : List It) (t : Option Nat) (sz : Nat) (E' : Env) (h' : List It) : Prop where
  bs : E'.bs = E.bs
  n : h.length ≤ h'.length
  nw : ∀ (k : Nat) (y : It) (b : Nat), h'[k]? = some y → Ow E' k y b → (∃ x, h[k]? = some x ∧ Ow E k x b) ∨ (sz ≤ b ∧ (t = some k ∨ h.length ≤ k))
theorem After.push {E : Env} {h : List It} {t : Option Nat} {sz : Nat} {x : It} {b : Nat} {v : Value} (hn : E.n = h.length) (hb : ∀ c, Ow (E.push b v) E.n x c → sz ≤ c) : After E h t sz (E.push b v) (h ++ [x]) :=
  ⟨rfl, by simp, fun k y c hy hc => by
    by_cases hk : k < h.length
    · rw [List.getElem?_append_left hk] at hy
      rw [Ow_mono (Env.push_le E b v) (by omega)] at hc
      exact .inl ⟨y, hy, hc⟩
    · have hk' : k = h.length := by
        have := (List.getElem?_eq_some_iff.1 hy).1
        simp at this; omega
      subst hk'
      simp at hy
      subst hy
      exact .inr ⟨hb c (by rw [hn]; exact hc), .inr (Nat.le_refl _)⟩⟩
theorem After.set {E : Env} {h : List It} {t : Option Nat} {sz it : Nat} {x y : It} (hx : h[it]? = some x) (hb : Ow E it y = Ow E it x) : After E h t sz E (h.set it y) :=
  ⟨rfl, by simp, fun k z b hz hzb => by
    by_cases he : it = k
    · subst he
      rw [List.getElem?_set_self (List.getElem?_eq_some_iff.1 hx).1] at hz
      cases hz
      exact .inl ⟨x, hx, by rw [← hb]; exact hzb⟩
    · rw [List.getElem?_set_ne he] at hz
      exact .inl ⟨z, hz, hzb⟩⟩
theorem After.turnTo {E E' : Env} {h : List It} {it sz : Nat} {x y : It} (hx : h[it]? = some x) (hbs : E'.bs = E.bs) (hbl : E'.blk = E.blk) (hext : ∀ k, k ≠ it → E'.ext k = E.ext k) (hsl : ∀ k, k ≠ it → E'.sl k = E.sl k)
    (hown : ∀ b, Ow E' it y b → Ow E it x b ∨ sz ≤ b) : After E h (some it) sz E' ((h.map (killIt it)).set it y) :=
  ⟨hbs, by simp, fun k u b hu hub => by
    by_cases he : it = k
    · subst he
      rw [List.getElem?_set_self (by simpa using (List.getElem?_eq_some_iff.1 hx).1)] at hu
      cases hu
      rcases hown b hub with h1 | h1
      · exact .inl ⟨_, hx, h1⟩
      · exact .inr ⟨h1, .inl rfl⟩
    · rw [List.getElem?_set_ne he, List.getElem?_map, Option.map_eq_some_iff] at hu
      obtain ⟨x', hx', rfl⟩ := hu
      rw [Ow_kill x' hbl (hext k (fun e => he e.symm)) (hsl k (fun e => he e.symm))] at hub
      exact .inl ⟨x', hx', hub⟩⟩
theorem After.turn {E E' : Env} {h : List It} {it sz : Nat} {e z : Nat} {xs ys : List (List XC)} (ht : Turn E E' it) (hx : h[it]? = some (.row e z xs)) (hv : (E'.sl it).ownBlock = (E.sl it).ownBlock ∨ (E'.sl it).ownBlock = some sz) :
    After E h (some it) sz E' ((h.map (killIt it)).set it (.row e z ys)) :=
  After.turnTo hx ht.bs ht.blk (fun k _ => by rw [ht.ext]) ht.sl fun b hb => by
    simp only [Ow] at hb ⊢
    rcases hv with h1 | h1
    · rw [h1] at hb; exact .inl hb
    · rw [h1] at hb; cases hb; exact .inr (Nat.le_refl _)
/-- The item that a pointer, or a slice, is into. -/
def tchV : XV → Option Nat
  | .c (.p it _) => some it
  | .c (.q it _ _ _) => some it
  | .c (.ow it) => some it
  | _ => none
/-- The item that an operation writes. -/
def tchOp (ts : List XV) : Op → Option Nat
  | .store _ a _ => tchV (opv ts a)
  | .call c => (match c.callee, c.args.toList with
    | .builtin .append, [d, _] => tchV (opv ts d)
    | _, _ => none)
  | _ => none
/-- An operation has been carried out. -/
def Done (P : Program) (w0 : Org) (F : Nat → Prop) (E : Env) (h : List It) (t : Option Nat) (s : Sem Next) (w : World) (vs : List Value) (k : KE) : Prop :=
  ∃ nx u w' x ts' h' E', (nx = .value u ∨ (nx = .skip ∧ u = undef)) ∧ s.run P w = .ok nx w' ∧ k x ts' h' ∧ RelV E' x u ∧ RelTs E' ts' vs ∧ Heap w0 F E' h' w' ∧ Keep E h t w w' ∧ After E h t w.heap.size E' h'

theorem srcX_sound {e : TypeId} {ei : TI} {x : XV} {u : Value} {k : List (List XC) → Prop} (hh : srcX ei h x k) (hx : RelV E x u) (hp : Heap w0 F E h w) :
    ∃ ys A m c us, k ys ∧ u = .slice A m c ∧ m = ys.length ∧ us.length = m * ei.size ∧ (∀ j v, us[j]? = some v → ∃ ad, A = some ad ∧ w.cell? (ad.add j) = some v) ∧
      (∀ E', E'.bs = E.bs → RelL E' ys.flatten us) ∧ (∀ l ∈ ys, l.length = ei.size) ∧ ∀ x ∈ ys.flatten, St x := by
  unfold srcX at hh
  split at hh
  · rename_i it
    split at hh
    case h_2 => exact hh.elim
    rename_i e' z ys hit
    replace hh := when_iff hh
    obtain ⟨hz, hk⟩ := hh
    have hz := Nat.eq_of_beq_eq_true hz
    subst hz
    obtain ⟨us, how, hr, hl, hs⟩ := hp.ok it _ (itemAt_eq _ _ hit (by simp))
    obtain ⟨_, rfl, _⟩ := hx
    have hR : ∀ E', E'.bs = E.bs → RelL E' ys.flatten us := fun E' hE => RelL.ofSt hE hs hr
    rcases how.2 with ⟨hsl, h0⟩ | ⟨g, cap, cur, hsl, hrest⟩
    · have hus : us = [] := List.eq_nil_of_length_eq_zero (by rw [how.1, h0]; simp)
      exact ⟨ys, none, 0, 0, us, hk, hsl, h0.symm, by simp [hus], by simp [hus], hR, hl, hs⟩
    · exact ⟨ys, _, _, _, us, hk, hsl, rfl, how.1, fun j v hv => ⟨_, rfl, how.cells (by simp [hsl, Value.ownBlock]) j v hv⟩, hR, hl, hs⟩
  · rename_i n z f
    replace hh := when_iff hh
    obtain ⟨hz, hk⟩ := hh
    have hz := Nat.eq_of_beq_eq_true hz
    subst hz
    obtain ⟨A, c, rfl, hnc, hm, hc⟩ := hx
    have hc' : ∀ i j, ∃ u, i < n → j < ei.size → ∃ ad, A = some ad ∧ E.bs.B ad.block ∧ E.bs.wb.cell? (ad.add (i * ei.size + j)) = some u ∧ St (f i j) ∧ RelC E (f i j) u := fun i j => by
      by_cases hi : i < n
      · obtain ⟨ad, e1, hcell⟩ := hc i hi
        by_cases hj : j < ei.size
        · obtain ⟨hb, u, h1, h2, h3⟩ := hcell j hj
          exact ⟨u, fun _ _ => ⟨ad, e1, hb, h1, h2, h3⟩⟩
        · exact ⟨undef, fun _ h' => absurd h' hj⟩
      · exact ⟨undef, fun h' => absurd h' hi⟩
    obtain ⟨G, hG⟩ := Classical.axiomOfChoice fun i => Classical.axiomOfChoice (hc' i)
    let us : List Value := ((List.range n).map fun i => (List.range ei.size).map (G i)).flatten
    have hlen : us.length = n * ei.size := by
      have hl1 : ∀ l ∈ ((List.range n).map fun i => (List.range ei.size).map (G i)), l.length = ei.size := by
        intro l hl; simp only [List.mem_map, List.mem_range] at hl; obtain ⟨i, _, rfl⟩ := hl; simp
      have : ∀ (L : List (List Value)), (∀ l ∈ L, l.length = ei.size) → L.flatten.length = L.length * ei.size := by
        intro L
        induction L with
        | nil => simp
        | cons a L ih => intro hL; simp [ih fun l hl => hL l (by simp [hl]), hL a (by simp), Nat.succ_mul, Nat.add_comm]
      simpa [us] using this _ hl1
    have hat : ∀ i j, i < n → j < ei.size → us[i * ei.size + j]? = some (G i j) := by
      intro i j hi hj
      have hfl : ∀ (L : List (List Value)) (i : Nat) (cs : List Value), (∀ l ∈ L, l.length = ei.size) → L[i]? = some cs → (L.flatten.drop (i * ei.size)).take ei.size = cs := by
        intro L
        induction L with
        | nil => intro i cs _ h'; simp at h'
        | cons a L ih =>
          intro i cs hL hi'
          have ha := hL a (by simp)
          cases i with
          | zero => simp at hi'; subst hi'; simp [← ha]
          | succ i =>
            have := ih i cs (fun l hl' => hL l (by simp [hl'])) (by simpa using hi')
            rw [List.flatten_cons, Nat.succ_mul, Nat.add_comm, ← List.drop_drop, ← ha, List.drop_left, ha]; exact this
      have h1 := hfl ((List.range n).map fun i => (List.range ei.size).map (G i)) i ((List.range ei.size).map (G i)) (by
        intro l hl; simp only [List.mem_map, List.mem_range] at hl; obtain ⟨i, _, rfl⟩ := hl; simp) (by simp [hi])
      have h2 : ((us.drop (i * ei.size)).take ei.size)[j]? = some (G i j) := by
        show (((((List.range n).map fun i => (List.range ei.size).map (G i)).flatten).drop (i * ei.size)).take ei.size)[j]? = some (G i j)
        rw [h1]; simp [hj]
      rw [List.getElem?_take, if_pos hj, List.getElem?_drop] at h2
      exact h2
    refine ⟨_, A, n, c, us, hk, rfl, by simp [rowsOf], hlen, ?_, ?_, ?_, ?_⟩
    · intro j v hv
      have hj : j < n * ei.size := by rw [← hlen]; exact (List.getElem?_eq_some_iff.1 hv).1
      have hz0 : 0 < ei.size := by
        rcases Nat.eq_zero_or_pos ei.size with h0 | h0
        · rw [h0] at hj; simp at hj
        · exact h0
      have hi : j / ei.size < n := (Nat.div_lt_iff_lt_mul hz0).2 hj
      have hr : j % ei.size < ei.size := Nat.mod_lt _ hz0
      obtain ⟨ad, e1, hb, h1, _⟩ := hG _ _ hi hr
      have hdm : j / ei.size * ei.size + j % ei.size = j := by rw [Nat.mul_comm]; exact Nat.div_add_mod j ei.size
      have := hat _ _ hi hr
      rw [hdm] at this h1
      rw [this] at hv; cases hv
      exact ⟨ad, e1, (Base.cell hp.bs (by rw [block_add]; exact hb)).trans h1⟩
    · intro E' hE
      have key : ∀ (L : List Nat), (∀ i ∈ L, i < n) → RelL E' (L.map fun i => (List.range ei.size).map (f i)).flatten (L.map fun i => (List.range ei.size).map (G i)).flatten := by
        intro L
        induction L with
        | nil => intro _; trivial
        | cons i L ih =>
          intro hL
          simp only [List.map_cons, List.flatten_cons]
          refine RelL.append ?_ (ih fun i hi => hL i (by simp [hi]))
          have key2 : ∀ (J : List Nat), (∀ j ∈ J, j < ei.size) → RelL E' (J.map (f i)) (J.map (G i)) := by
            intro J
            induction J with
            | nil => intro _; trivial
            | cons j J ih =>
              intro hJ
              obtain ⟨_, _, _, _, hs, hr⟩ := hG i j (hL i (by simp)) (hJ j (by simp))
              exact ⟨RelC.stable (by rw [hE]; exact fun _ hb => ⟨hb, rfl⟩) _ _ hs hr, ih fun j hj => hJ j (by simp [hj])⟩
          exact key2 _ fun j hj => by simpa using hj
      exact key _ fun i hi => by simpa using hi
    · intro l hl; simp only [rowsOf, List.mem_map, List.mem_range] at hl; obtain ⟨i, _, rfl⟩ := hl; simp
    · intro x hx
      simp only [rowsOf, List.mem_flatten, List.mem_map, List.mem_range] at hx
      obtain ⟨l, ⟨i, hi, rfl⟩, hx⟩ := hx
      simp only [List.mem_map, List.mem_range] at hx
      obtain ⟨j, hj, rfl⟩ := hx
      obtain ⟨_, _, _, _, hs, _⟩ := hG i j hi hj
      exact hs
  · have : u = .slice none 0 0 := hx.1
    exact ⟨[], none, 0, 0, [], hh, this, rfl, by simp, by simp, fun _ _ => trivial, by simp, by simp⟩
  · exact hh.elim

end
theorem run_append_nil_src {P : Program} (w : World) (t ty e : TypeId) (i : TypeInfo) (size base : Nat) (ht : P.underlying t = some (.slice e)) (hi : P.info? e = some i)
    (v : Value) (n : Nat) (xs : List Value) (hown : w.ownsRow base e size v n xs) (c : Nat) : (Builtin.append_ #[t, t] ty #[v, .slice none 0 c]).run P w = .ok v w := by
  rcases hown.2 with ⟨rfl, rfl⟩ | ⟨g, cap, cur, rfl, _, _, hnc, _⟩
  · simp [Builtin.append_, run_underlying ht, sizeOf, typeInfo, hi, Builtin.lenOf, Builtin.firstCells]
  · simp [Builtin.append_, run_underlying ht, sizeOf, typeInfo, hi, Builtin.lenOf, Builtin.firstCells, hnc, storeCells]

theorem run_app {P : Program} {w : World} {t ty e : TypeId} {ei : TI} (hu : P.underlying t = some (.slice e)) (hs : TIs P e ei) (hz : 0 < ei.size) (hb : ei.bytes ≤ 100000)
    {v : Value} {n m c : Nat} {xs us : List Value} {A : Option Addr} (hown : w.ownsRow 0 e ei.size v n xs) (hl : us.length = m * ei.size)
    (hc : ∀ j u, us[j]? = some u → ∃ ad, A = some ad ∧ w.cell? (ad.add j) = some u) (h1 : ∀ u ∈ us, u.oneCell' = true) (hle : n + m ≤ 1000000000) :
    ∃ v' w', (Builtin.append_ #[t, t] ty #[v, .slice A m c]).run P w = .ok v' w' ∧ w'.ownsRow 0 e ei.size v' (n + m) (xs ++ us) ∧ w.grownBy w' v.ownBlock ∧
      (v'.ownBlock = v.ownBlock ∨ v'.ownBlock = some w.heap.size) := by
  obtain ⟨i, hi, hsz, hby, z, hz0, hzc, _, hzs⟩ := hs.info
  cases A with
  | none =>
    have hus : us = [] := by
      cases us with
      | nil => rfl
      | cons u us => obtain ⟨ad, e, _⟩ := hc 0 u rfl; cases e
    subst hus
    have hm : m = 0 := by
      rcases Nat.eq_zero_or_pos m with h0 | h0
      · exact h0
      · have := Nat.mul_pos h0 hz; simp at hl; omega
    subst hm
    exact ⟨v, w, run_append_nil_src w t ty e i ei.size 0 hu hi v n xs hown c, by simpa using hown, World.grownBy.refl w _, .inl rfl⟩
  | some ad =>
    obtain ⟨v', w', hrun, h2, h3, _, h5⟩ := run_append_own_at (P := P) w 0 t ty e i z ei.size ei.bytes hu hi hz0 hsz hby hzs hz v n xs hown ad m c us hl
      (fun j u hj => by obtain ⟨ad', e, h'⟩ := hc j u hj; cases e; exact h') h1 (by simp only [maxLen]; omega)
      (Nat.le_trans (Nat.mul_le_mul hle hb) (by omega)) (Nat.zero_le _)
    exact ⟨v', w', hrun, h2, h3, h5⟩

section
variable {P : Program} {T : Tab} (hT : TabOk P T) {E : Env} {h : List It} {w0 : Org} {w : World} {F : Nat → Prop}
include hT in
theorem appX_sound {t ty : TypeId} {d s : XV} {ud us : Value} {ts : List XV} {vs : List Value} {k : KE} (hh : appX T t d s ts h k) (hd : RelV E d ud) (hs : RelV E s us) (hr : RelTs E ts vs) (hp : Heap w0 F E h w) :
    Done P w0 F E h (tchV d) (do let v ← Builtin.append_ #[t, t] ty #[ud, us]; pure (.value v)) w vs k := by
  unfold appX at hh
  split at hh
  case h_2 => exact hh.elim
  rename_i ti ht
  split at hh
  case h_2 => exact hh.elim
  rename_i e hkd
  have hu := mkKd_sl ((TIs.of (hT _ _ ht)).kd.symm.trans hkd)
  split at hh
  case h_2 => exact hh.elim
  rename_i ei hte
  have hts := TIs.of (hT _ _ hte)
  replace hh := when_iff hh
  obtain ⟨hb, hh⟩ := hh
  simp only [Bool.and_eq_true] at hb
  have hz : 0 < ei.size := by
    have : 0 + 1 ≤ ei.size := by simpa [Nat.blt, Nat.ble_eq] using hb.1
    omega
  have hby := Nat.le_of_ble_eq_true hb.2
  obtain ⟨ys, A, m, c, ul, hh2, rfl, rfl, hul, hc, hR, hlen, hst⟩ := srcX_sound (e := e) hh hs hp
  clear hh
  have hh := hh2
  clear hh2
  split at hh
  · obtain ⟨hle, hh⟩ := hh
    rw [lenK_eq, snocH_eq] at hh
    have : ud = .slice none 0 0 := hd.1
    subst this
    obtain ⟨v', w', hrun, ho, hg, hv⟩ := run_app (P := P) (ty := ty) (c := c) hu hts hz hby (World.ownsRow_nil w 0 e ei.size) hul hc (hR E rfl).all (by omega)
    simp only [Nat.zero_add, List.nil_append] at ho
    have hE := Env.push_le E 0 v'
    have hown : ∀ b, v'.ownBlock = some b → w.heap.size ≤ b ∧ b < w'.heap.size := fun b hb' => by
      refine ⟨?_, (ho.lt b hb').2⟩
      rcases hv with e1 | e1
      · rw [e1] at hb'; simp [Value.ownBlock] at hb'
      · rw [e1] at hb'; cases hb'; exact Nat.le_refl _
    have hp' := hp.push (x := .row e ei.size ys) (b := 0) (v := v') (S := fun _ => False) ⟨hg.os, hg.tape, hg.output, hg.size, fun k hk _ => hg.block k hk (by simp [Value.ownBlock])⟩
      ⟨ul, by simpa [Env.push] using ho, hR _ rfl, hlen, hst⟩ (fun b hb' => hown b (by simpa [Ow, Env.push] using hb'))
    refine ⟨_, v', w', _, _, _, _, .inl rfl, ?_, hh, ⟨?_, ?_, ?_⟩, hr.mono hE, hp', ⟨hg.size, fun b hb _ => hg.block b hb (by simp [Value.ownBlock])⟩, After.push hp.n (fun c hc => (hown c (by simpa [Ow, Env.push] using hc)).1)⟩
    · simp [hrun]
    · rw [← hp.n]; simp [Env.push]
    · simp [Env.push, hp.n]
    · rcases ho.2 with ⟨rfl, _⟩ | ⟨g, cap, cur, rfl, _⟩ <;> rfl
  · rename_i it
    split at hh
    case h_3 => exact hh.elim
    case h_2 e' z as hit =>
      replace hh := when_iff hh
      obtain ⟨hez, hle, hh⟩ := hh
      simp only [Bool.and_eq_true] at hez
      have he := Nat.eq_of_beq_eq_true hez.1
      have hz' := Nat.eq_of_beq_eq_true hez.2
      subst he; subst hz'
      have hi := itemAt_eq _ _ hit (by simp)
      obtain ⟨zs, Ss, hpr⟩ := hp.ok it _ hi
      obtain ⟨hn, rfl, _⟩ := hd
      obtain ⟨v', w', hrun, ho, hg, hv⟩ := run_app (P := P) (ty := ty) (c := c) hu hts hz hby hpr.row hul hc (hR E rfl).all hle
      let E' : Env := { E with sl := fun k => if k = it then v' else E.sl k, ext := fun k => if k = it then (fun b => v'.ownBlock = some b ∨ (E.ext it b ∧ (E.sl it).ownBlock ≠ some b)) else E.ext k }
      have hsl : E'.sl it = v' := by simp [E']
      have hext : ∀ b, E'.ext it b ↔ v'.ownBlock = some b ∨ (E.ext it b ∧ (E.sl it).ownBlock ≠ some b) := fun b => by simp [E']
      have hslk : ∀ k, k ≠ it → E'.sl k = E.sl k := fun k hk => by simp [E', hk]
      have hextk : ∀ k, k ≠ it → E'.ext k = E.ext k := fun k hk => by simp [E', hk]
      let Ek : Env := { E' with ext := E.ext }
      have htk : Turn E Ek it := ⟨rfl, rfl, rfl, rfl, hslk⟩
      have hce : EnvC Ek E' := ⟨Nat.le_refl _, fun _ _ => rfl, fun _ _ => rfl, fun _ h => ⟨h, rfl⟩⟩
      have hlen0 : zs.length = as.length * ei.size := hpr.row.1
      have hlt : ∀ i b, Ss i b → b < w.heap.size := fun i b hb => (hp.own it _ b hi (hpr.own i b hb).1).1
      have hSs : ∀ i, i < as.length → (fun b => i < as.length ∧ Ss i b) = Ss i := fun i hi => by funext b; exact propext ⟨fun h => h.2, fun h => ⟨hi, h⟩⟩
      have hpr' : PRow E' w' it e' ei.size (as ++ ys.map StL) none (zs ++ ul) (fun i b => i < as.length ∧ Ss i b) := by
        refine ⟨by rw [hsl]; simpa using ho, fun i a ha _ => ?_, fun i cs e => (by cases e), fun i j b h1 h2 => hpr.sep i j b h1.2 h2.2, fun i b hb => ?_, fun b hb => (hext b).2 (.inl (by rw [← hsl]; exact hb))⟩
        · by_cases hil : i < as.length
          · rw [List.getElem?_append_left hil] at ha
            have h1 := hpr.el i a ha (fun cs e => by cases e)
            have hle2 : i * ei.size + ei.size ≤ zs.length := by rw [hlen0, ← Nat.succ_mul]; exact Nat.mul_le_mul_right _ hil
            have htake : ((zs ++ ul).drop (i * ei.size)).take ei.size = (zs.drop (i * ei.size)).take ei.size := by
              rw [List.drop_append, show i * ei.size - zs.length = 0 by omega, List.drop_zero, List.take_append_of_le_length (by rw [List.length_drop]; omega)]
            rw [htake, hSs i hil]
            exact a.st (fun _ h => ⟨h, rfl⟩) (fun b hb => hg.block b (hlt i b hb) fun e => (hpr.own i b hb).2 e.symm) h1
          · rw [List.getElem?_append_right (by omega), List.getElem?_map, Option.map_eq_some_iff] at ha
            obtain ⟨l, hl, rfl⟩ := ha
            have hdrop : (zs ++ ul).drop (i * ei.size) = ul.drop ((i - as.length) * ei.size) := by
              have h3 : i * ei.size = zs.length + (i - as.length) * ei.size := by rw [hlen0, ← Nat.add_mul]; congr 1; omega
              rw [h3, List.drop_append, List.drop_of_length_le (by omega)]; simp
            have hfl := flatten_at ys (i - as.length) l hlen hl
            refine ⟨fun x hx => hst x (List.mem_flatten.2 ⟨l, List.mem_of_getElem? hl, hx⟩), E', rfl, ?_⟩
            rw [hdrop, ← hfl]
            exact ((hR E' rfl).drop _).take _
        · have h1 := hpr.own i b hb.2
          refine ⟨(hext b).2 (.inr h1), ?_⟩
          rw [hsl]
          rcases hv with e1 | e1
          · rw [e1]; exact h1.2
          · rw [e1]; intro e2; cases e2; exact Nat.lt_irrefl _ (hlt i _ hb.2)
      have hvown : ∀ b, E'.ext it b → (E.ext it b ∨ w.heap.size ≤ b) ∧ b < w'.heap.size := fun b hb => by
        rcases (hext b).1 hb with h1 | h1
        · refine ⟨?_, (ho.lt b h1).2⟩
          rcases hv with e1 | e1
          · rw [e1] at h1; exact .inl (hpr.blk b h1)
          · rw [e1] at h1; cases h1; exact .inr (Nat.le_refl _)
        · exact ⟨.inl h1.1, Nat.lt_of_lt_of_le (hp.own it _ b hi h1.1).1 hg.size⟩
      have hp' := hp.turnTo (E' := E') (y := .prow e' ei.size (as ++ ys.map StL) none) hi hg.size hg.os hg.tape hg.output (fun b hb hno => hg.block b hb fun e => hno (hpr.blk b e.symm)) rfl rfl rfl hextk hslk hvown ⟨_, _, hpr'⟩
      obtain ⟨ts', hh, hts'⟩ := killTs_rel htk hh hr
      rw [killH_eq, setH_eq] at hh
      refine ⟨_, v', w', _, _, _, E', .inl rfl, ?_, hh, ⟨hn, hsl.symm, ?_⟩, hts'.monoC hce, hp', ⟨hg.size, fun b hb hne => hg.block b hb (fun e => hne it _ rfl hi (hpr.blk b e.symm))⟩, After.turnTo hi rfl rfl hextk hslk (fun b hb => (hvown b hb).1)⟩
      · simp [hrun]
      · rcases ho.2 with ⟨rfl, _⟩ | ⟨g, cap, cur, rfl, _⟩ <;> rfl
    rename_i e' z xs hit
    replace hh := when_iff hh
    obtain ⟨hez, hle, hh⟩ := hh
    simp only [Bool.and_eq_true] at hez
    have he := Nat.eq_of_beq_eq_true hez.1
    have hz' := Nat.eq_of_beq_eq_true hez.2
    subst he; subst hz'
    have hi := itemAt_eq _ _ hit (by simp)
    obtain ⟨zs, how, hrz, hlz, hsz⟩ := hp.ok it _ hi
    obtain ⟨hn, rfl, _⟩ := hd
    obtain ⟨v', w', hrun, ho, hg, hv⟩ := run_app (P := P) (ty := ty) (c := c) hu hts hz hby how hul hc (hR E rfl).all hle
    obtain ⟨E', htn, hp', hsl⟩ := hp.turn (ys := xs ++ ys) hi hg hv (fun b hb' => (ho.lt b hb').2) (by simpa using ho)
      (fun E' htn => by rw [List.flatten_append]; exact (RelL.ofSt htn.bs hsz hrz).append (hR E' htn.bs))
      (fun l hl => by rcases List.mem_append.1 hl with hl | hl; exact hlz l hl; exact hlen l hl)
      (fun x hx => by rw [List.flatten_append] at hx; rcases List.mem_append.1 hx with hx | hx; exact hsz x hx; exact hst x hx)
    obtain ⟨ts', hh, hts'⟩ := killTs_rel htn hh hr
    rw [killH_eq, setH_eq] at hh
    refine ⟨_, v', w', _, _, _, E', .inl rfl, ?_, hh, ⟨?_, ?_, ?_⟩, hts', hp', ⟨hg.size, fun b hb hne => hg.block b hb (fun e => hne it _ rfl hi e.symm)⟩, After.turn htn hi (by rw [hsl]; exact hv)⟩
    · simp [hrun]
    · rw [htn.n]; exact hn
    · exact hsl.symm
    · rcases ho.2 with ⟨rfl, _⟩ | ⟨g, cap, cur, rfl, _⟩ <;> rfl
  · exact hh.elim
end
end Go.Eng
