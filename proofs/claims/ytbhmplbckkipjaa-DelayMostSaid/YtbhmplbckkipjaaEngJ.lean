/- The engine, part J: stores and new memory are right; nothing of any program is proved here. -/
import Derived.Test.YtbhmplbckkipjaaEngI
namespace Go.Eng
open Go Go.RowKit
set_option linter.unusedSimpArgs false
set_option linter.unusedVariables false
section
variable {P : Program} {T : Tab} (hT : TabOk P T) {E : Env} {h : List It} {w0 : Org} {w : World} {F : Nat → Prop}

theorem setRow_other' (w : World) (g k : Nat) (cs : Array Value) (hk : k ≠ g) : (w.setRow g cs).heap[k]? = w.heap[k]? := setRow_other w g k cs hk

theorem flatten_put {z off : Nat} {l : List XC} : ∀ (xs : List (List XC)) (i : Nat) (cs : List XC), (∀ l ∈ xs, l.length = z) → xs[i]? = some cs → off + l.length ≤ z →
    (xs.set i (putL cs off l)).flatten = putL xs.flatten (i * z + off) l
  | x :: xs, 0, cs, hl, hi, hc => by
    have hx := hl x (by simp)
    simp at hi; subst hi
    simp only [List.set_cons_zero, List.flatten_cons, putL, Nat.zero_mul, Nat.zero_add, List.append_assoc]
    rw [List.take_append, List.drop_append, show off - x.length = 0 by omega, show off + l.length - x.length = 0 by omega]
    simp
  | x :: xs, i + 1, cs, hl, hi, hc => by
    have hx := hl x (by simp)
    have ih := flatten_put xs i cs (fun l hl' => hl l (by simp [hl'])) (by simpa using hi) hc
    rw [List.set_cons_succ, List.flatten_cons, List.flatten_cons, ih]
    unfold putL
    rw [List.take_append (l₁ := x), List.drop_append (l₁ := x), List.take_of_length_le (l := x) (by rw [hx, Nat.succ_mul]; omega), List.drop_of_length_le (l := x) (by rw [hx, Nat.succ_mul]; omega),
      show (i + 1) * z + off - x.length = i * z + off by rw [hx, Nat.succ_mul]; omega, show (i + 1) * z + off + l.length - x.length = i * z + off + l.length by rw [hx, Nat.succ_mul]; omega]
    simp

theorem take_splice {α : Type} (cur us : List α) (o n : Nat) (h1 : o + us.length ≤ n) (h2 : n ≤ cur.length) :
    (cur.take o ++ us ++ cur.drop (o + us.length)).take n = (cur.take n).take o ++ us ++ (cur.take n).drop (o + us.length) := by
  apply List.ext_getElem?
  intro j
  simp only [List.getElem?_take, List.getElem?_append, List.length_append, List.length_take, List.getElem?_drop]
  rw [show min o cur.length = o by omega, show min o (min n cur.length) = o by omega]
  by_cases hj : j < n
  · rw [if_pos hj]
    by_cases h3 : j < o
    · simp [h3, hj, show j < o + us.length by omega]
    · by_cases h4 : j < o + us.length
      · simp [h3, h4]
      · simp [h4, show o + us.length + (j - (o + us.length)) < n by omega]
  · rw [if_neg hj]
    simp [show ¬ j < o + us.length by omega, show ¬ (o + us.length + (j - (o + us.length)) < n) by omega]

include hT in
theorem storeX_sound {t : TypeId} {a x : XV} {ua u : Value} {ts : List XV} {vs : List Value} {k : KE} (hh : storeX T t a x ts h k) (ha : RelV E a ua) (hx : RelV E x u) (hr : RelTs E ts vs) (hp : Heap w0 F E h w) :
    Done P w0 F E h (tchV a) (do Instr.storeAt t ua u; pure .skip) w vs k := by
  unfold storeX at hh
  split at hh
  case h_2 => exact hh.elim
  rename_i ti l ht hcl
  have hs := TIs.of (hT _ _ ht)
  have hru := cells_rel hcl hx
  split at hh
  · rename_i it off
    split at hh
    case h_2 => exact hh.elim
    rename_i ty cs hit
    replace hh := when_iff hh
    obtain ⟨hb, hh⟩ := hh
    rw [forceL_eq, setH_eq] at hh
    simp only [Bool.and_eq_true] at hb
    have hlz : l.length = ti.size := Nat.eq_of_beq_eq_true hb.1
    have hle := Nat.le_of_ble_eq_true hb.2
    have hi := itemAt_eq _ _ hit (by simp)
    obtain ⟨cur, hcur, hrel⟩ := hp.ok it _ hi
    obtain ⟨hn, rfl⟩ := ha
    have hus : u.cells.size = ti.size := by rw [← Array.length_toList, ← hru.len, hlz]
    have hcl2 : cs.length = cur.size := by rw [hrel.len, Array.length_toList]
    have hrun := run_storeVar (P := P) hs w (E.blk it) off ty cur u hcur hus hru.all (by omega)
    have hput := RelL.put off hrel hru
    have hlen2 : u.cells.toList.length = ti.size := by rw [Array.length_toList]; exact hus
    rw [hlen2] at hput
    refine ⟨.skip, undef, w.setRow (E.blk it) (cur.toList.take off ++ u.cells.toList ++ cur.toList.drop (off + ti.size)).toArray, .un, ts, _, E, .inr ⟨rfl, rfl⟩, ?_, hh, trivial, hr, ?_, ⟨by simp [World.setRow], fun b hb hne => setRow_other' w _ b _ (fun e => hne it _ rfl hi (by rw [e]; rfl))⟩, After.set hi rfl⟩
    · simp [Instr.storeAt, Instr.sureAddr, hrun]
    · refine hp.put hi rfl (fun c hc => hc.symm) ⟨_, setRow_heap w (E.blk it) cur _ ty _ hcur, by simpa using hput⟩ ?_ rfl rfl rfl (fun k hk => setRow_other' w _ k _ hk)
      simp [World.setRow]
  · rename_i it i z off
    -- a store into a row of packs
    have pst : ∀ {e : TypeId} {as as' : List AbsL} {o o' : Option (Nat × List XC)}, h[it]? = some (.prow e z as o) → as'.length = as.length → l.length = ti.size → off + ti.size ≤ z → i < as.length → k .un ts (h.set it (.prow e z as' o')) →
        (∀ (ys : List Value) (Ss : Nat → Nat → Prop) (w' : World), PRow E w it e z as o ys Ss → (∀ b, (E.sl it).ownBlock ≠ some b → w'.heap[b]? = w.heap[b]?) → ys.length = as.length * z →
          w'.ownsRow 0 e z (E.sl it) as.length (ys.take (i * z + off) ++ u.cells.toList ++ ys.drop (i * z + off + ti.size)) →
          ∃ Ss', PRow E w' it e z as' o' (ys.take (i * z + off) ++ u.cells.toList ++ ys.drop (i * z + off + ti.size)) Ss') → Done P w0 F E h (some it) (do Instr.storeAt t ua u; pure .skip) w vs k := by
      intro e as as' o o' hi hlen hlz hle hilt hk hpr'
      obtain ⟨ys, Ss, hpr⟩ := hp.ok it _ hi
      obtain ⟨hn, g, n, c, hsl, rfl⟩ := ha
      rcases hpr.row.2 with ⟨hnil, _⟩ | ⟨g', cap, cur, hsl', h0, hg, hnc, hcm, hcs2, htake⟩
      · rw [hsl] at hnil; cases hnil
      rw [hsl] at hsl'
      simp only [Value.slice.injEq, Option.some.injEq, Addr.mk.injEq, and_true] at hsl'
      obtain ⟨rfl, rfl, rfl⟩ := hsl'
      have hiz : i * z + z ≤ as.length * z := by rw [← Nat.succ_mul]; exact Nat.mul_le_mul_right z hilt
      have hcz : as.length * z ≤ c * z := Nat.mul_le_mul_right z hnc
      have hus : u.cells.size = ti.size := by rw [← Array.length_toList, ← hru.len, hlz]
      have hlen2 : u.cells.toList.length = ti.size := by rw [Array.length_toList]; exact hus
      have hrun := run_storeVar (P := P) hs w g (i * z + off) e cur u hg hus hru.all (by omega)
      have hys : ys.length = as.length * z := hpr.row.1
      let w' := w.setRow g (cur.toList.take (i * z + off) ++ u.cells.toList ++ cur.toList.drop (i * z + off + ti.size)).toArray
      have hown : w'.ownsRow 0 e z (E.sl it) as.length (ys.take (i * z + off) ++ u.cells.toList ++ ys.drop (i * z + off + ti.size)) := by
        refine ⟨?_, .inr ⟨g, c, _, by simpa using hsl, Nat.zero_le _, setRow_heap w g cur _ e _ hg, by simpa using hnc, hcm, ?_, ?_⟩⟩
        · simp only [List.length_append, List.length_take, List.length_drop, hlen2]; omega
        · simp only [List.size_toArray, List.length_append, List.length_take, List.length_drop, Array.length_toList, hlen2]; omega
        · rw [← htake, ← hlen2]
          simp only [List.size_toArray]
          exact take_splice cur.toList u.cells.toList (i * z + off) (as.length * z) (by omega) (show as.length * z ≤ cur.toList.length by have e : cur.toList.length = cur.size := Array.length_toList; rw [e, hcs2]; exact hcz)
      have hoth : ∀ b, (E.sl it).ownBlock ≠ some b → w'.heap[b]? = w.heap[b]? := fun b hb => setRow_other' w _ b _ (fun e => hb (by rw [e, hsl]; rfl))
      obtain ⟨Ss', hpr2⟩ := hpr' ys Ss w' hpr hoth hys hown
      refine ⟨.skip, undef, w', .un, ts, _, E, .inr ⟨rfl, rfl⟩, ?_, hk, trivial, hr, ?_, ⟨by simp [w', World.setRow], fun b hb hne => hoth b (fun e => hne it _ rfl hi (hpr.blk b e))⟩, After.set hi rfl⟩
      · simp [Instr.storeAt, Instr.sureAddr, hrun, w']
      · exact hp.putTo hi (fun c hc => hc) ⟨_, Ss', hpr2⟩ (by simp [w', World.setRow]) rfl rfl rfl (fun b hb => hoth b fun e => hb (hpr.blk b e))
    -- what the other elements lie in
    have other : ∀ {ys us : List Value} {j : Nat}, us.length = ti.size → off + ti.size ≤ z → (i + 1) * z ≤ ys.length → j ≠ i → ((ys.take (i * z + off) ++ us ++ ys.drop (i * z + off + ti.size)).drop (j * z)).take z = (ys.drop (j * z)).take z := by
      intro ys us j hus hle hiz hne
      apply List.ext_getElem?
      intro q
      simp only [List.getElem?_take, List.getElem?_drop, List.getElem?_append, List.length_append, List.length_take]
      have hiz' : i * z + z ≤ ys.length := by rw [← Nat.succ_mul]; exact hiz
      split
      case isFalse => rfl
      rename_i hq
      rw [show min (i * z + off) ys.length = i * z + off by omega]
      rcases Nat.lt_or_gt_of_ne hne with hlt | hgt
      · have : j * z + z ≤ i * z := by rw [← Nat.succ_mul]; exact Nat.mul_le_mul_right z hlt
        rw [if_pos (by omega), if_pos (by omega), if_pos (by omega)]
      · have : i * z + z ≤ j * z := by rw [← Nat.succ_mul]; exact Nat.mul_le_mul_right z hgt
        rw [if_neg (by omega)]
        congr 1; omega
    have here : ∀ {ys us : List Value}, us.length = ti.size → off + ti.size ≤ z → (i + 1) * z ≤ ys.length → ((ys.take (i * z + off) ++ us ++ ys.drop (i * z + off + ti.size)).drop (i * z)).take z = ((ys.drop (i * z)).take z).take off ++ us ++ ((ys.drop (i * z)).take z).drop (off + us.length) := by
      intro ys us hus hle hiz
      have hiz' : i * z + z ≤ ys.length := by rw [← Nat.succ_mul]; exact hiz
      apply List.ext_getElem?
      intro q
      simp only [List.getElem?_take, List.getElem?_drop, List.getElem?_append, List.length_append, List.length_take, List.length_drop]
      rw [show min (i * z + off) ys.length = i * z + off by omega, show min off (min z (ys.length - i * z)) = off by omega]
      by_cases hq : q < z
      · rw [if_pos hq]
        by_cases h1 : q < off
        · rw [if_pos (by omega), if_pos (by omega), if_pos (by omega), if_pos (by omega), if_pos (by omega), if_pos (by omega), if_pos (by omega)]
        · by_cases h2 : q < off + us.length
          · rw [if_pos (by omega), if_neg (by omega), if_pos h2, if_neg h1]
            congr 1; omega
          · rw [if_neg (by omega), if_neg h2, if_pos (by omega)]
            congr 1; omega
      · rw [if_neg hq, if_neg (by omega), if_neg (by omega)]
    split at hh
    case h_4 => exact hh.elim
    case h_2 e z' as i' cs hit =>
      replace hh := when_iff hh
      obtain ⟨hb, rfl, hh⟩ := hh
      rw [forceL_eq, setH_eq] at hh
      simp only [Bool.and_eq_true] at hb
      obtain ⟨⟨hz, hlz⟩, hle⟩ := hb
      have hz := Nat.eq_of_beq_eq_true hz
      subst hz
      have hlz : l.length = ti.size := Nat.eq_of_beq_eq_true hlz
      have hle := Nat.le_of_ble_eq_true hle
      have hi := itemAt_eq _ _ hit (by simp)
      have hus : u.cells.toList.length = ti.size := by rw [← hru.len, hlz]
      have hilt : i < as.length := by obtain ⟨_, _, hpr⟩ := hp.ok it _ hi; exact (hpr.op _ _ rfl).1
      refine pst hi rfl hlz hle hilt hh fun ys Ss w' hpr hoth hys hown => ⟨Ss, ?_⟩
      have hiz : (i + 1) * z ≤ ys.length := by rw [hys]; exact Nat.mul_le_mul_right z hilt
      refine ⟨hown, fun j a ha hno => ?_, fun j cs' e => ?_, hpr.sep, hpr.own, hpr.blk⟩
      · have hj : j ≠ i := fun e => hno _ (by rw [e])
        rw [other hus hle hiz hj]
        exact a.st (fun _ h => ⟨h, rfl⟩) (fun b hb => hoth b (hpr.own j b hb).2) (hpr.el j a ha fun cs'' e => by cases e; exact hj rfl)
      · cases e
        obtain ⟨g1, g2, g3⟩ := hpr.op i cs rfl
        have hput := RelL.put off g3 hru
        rw [here hus hle hiz]
        exact ⟨g1, by simp only [putL, List.length_append, List.length_take, List.length_drop]; omega, hput⟩
    case h_3 e z' as hit =>
      replace hh := when_iff hh
      obtain ⟨hb, hilt, hh⟩ := hh
      rw [setH_eq] at hh
      simp only [Bool.and_eq_true] at hb
      obtain ⟨⟨⟨⟨hz, hlz⟩, ho0⟩, htz⟩, hst⟩ := hb
      have hz := Nat.eq_of_beq_eq_true hz
      subst hz
      have hlz : l.length = ti.size := Nat.eq_of_beq_eq_true hlz
      have ho0 := Nat.eq_of_beq_eq_true ho0
      have htz := Nat.eq_of_beq_eq_true htz
      have hle : off + ti.size ≤ z := by omega
      have hi := itemAt_eq _ _ hit (by simp)
      have hus : u.cells.toList.length = ti.size := by rw [← hru.len, hlz]
      refine pst hi (by simp) hlz hle hilt hh fun ys Ss w' hpr hoth hys hown => ⟨fun j b => j ≠ i ∧ Ss j b, ?_⟩
      have hiz : (i + 1) * z ≤ ys.length := by rw [hys]; exact Nat.mul_le_mul_right z hilt
      refine ⟨by rw [List.length_set]; exact hown, fun j a ha hno => ?_, fun j cs' e => (by cases e), fun j j' b h1 h2 => hpr.sep j j' b h1.2 h2.2, fun j b hb => hpr.own j b hb.2, hpr.blk⟩
      by_cases hj : j = i
      · subst hj
        rw [List.getElem?_set_self hilt] at ha
        cases ha
        rw [here hus hle hiz, ho0, List.take_zero, List.nil_append, List.drop_of_length_le (by rw [List.length_take]; omega), List.append_nil]
        exact ⟨allSt_iff hst, E, rfl, hru⟩
      · rw [List.getElem?_set_ne (fun e => hj e.symm)] at ha
        rw [other hus hle hiz hj]
        have hSs : (fun b => j ≠ i ∧ Ss j b) = Ss j := by funext b; exact propext ⟨fun h => h.2, fun h => ⟨hj, h⟩⟩
        rw [hSs]
        exact a.st (fun _ h => ⟨h, rfl⟩) (fun b hb => hoth b (hpr.own j b hb).2) (hpr.el j a ha fun cs'' e => (by cases e))
    rename_i e z' xs hit
    replace hh := when_iff hh
    obtain ⟨hb, cs, hcs, hh⟩ := hh
    rw [setH_eq] at hh
    simp only [Bool.and_eq_true] at hb
    obtain ⟨⟨⟨hz, hlz⟩, hle⟩, hst⟩ := hb
    have hz := Nat.eq_of_beq_eq_true hz
    subst hz
    have hlz : l.length = ti.size := Nat.eq_of_beq_eq_true hlz
    have hle := Nat.le_of_ble_eq_true hle
    have hi := itemAt_eq _ _ hit (by simp)
    obtain ⟨ys, how, hrel, hl, hs2⟩ := hp.ok it _ hi
    obtain ⟨hn, g, n, c, hsl, rfl⟩ := ha
    rcases how.2 with ⟨hnil, _⟩ | ⟨g', cap, cur, hsl', h0, hg, hnc, hcm, hcs2, htake⟩
    · rw [hsl] at hnil; cases hnil
    rw [hsl] at hsl'
    simp only [Value.slice.injEq, Option.some.injEq, Addr.mk.injEq, and_true] at hsl'
    obtain ⟨rfl, rfl, rfl⟩ := hsl'
    have hilt : i < xs.length := (List.getElem?_eq_some_iff.1 hcs).1
    have hiz : i * z + z ≤ xs.length * z := by rw [← Nat.succ_mul]; exact Nat.mul_le_mul_right z hilt
    have hcz : xs.length * z ≤ c * z := Nat.mul_le_mul_right z hnc
    have hus : u.cells.size = ti.size := by rw [← Array.length_toList, ← hru.len, hlz]
    have hlen2 : u.cells.toList.length = ti.size := by rw [Array.length_toList]; exact hus
    have hrun := run_storeVar (P := P) hs w g (i * z + off) e cur u hg hus hru.all (by omega)
    have hfl := flatten_put (l := l) (off := off) xs i cs hl hcs (by omega)
    have hput := RelL.put (i * z + off) hrel hru
    rw [hlen2, ← hfl] at hput
    refine ⟨.skip, undef, w.setRow g (cur.toList.take (i * z + off) ++ u.cells.toList ++ cur.toList.drop (i * z + off + ti.size)).toArray, .un, ts, _, E, .inr ⟨rfl, rfl⟩, ?_, hh, trivial, hr, ?_, ⟨by simp [World.setRow], fun b hb hne => setRow_other' w _ b _ (fun e => hne it _ rfl hi (by rw [e]; simp [Ow, hsl, Value.ownBlock]))⟩, After.set hi rfl⟩
    · simp [Instr.storeAt, Instr.sureAddr, hrun]
    · have hb1 : ∀ y, Ow E it (.row e z y) g := fun y => by simp [Ow, hsl, Value.ownBlock]
      refine hp.put hi (hb1 _) (fun c hc => by simp [Ow, hsl, Value.ownBlock] at hc; exact hc.symm) ⟨ys.take (i * z + off) ++ u.cells.toList ++ ys.drop (i * z + off + ti.size), ⟨?_, .inr ⟨g, c, _, by simpa using hsl, Nat.zero_le _, setRow_heap w g cur _ e _ hg, by simpa using hnc, hcm, ?_, ?_⟩⟩, hput, ?_, ?_⟩
        ?_ rfl rfl rfl (fun k hk => setRow_other' w _ k _ hk)
      · have := how.1
        simp only [List.length_append, List.length_take, List.length_drop, List.length_set, hlen2]; omega
      · simp only [List.size_toArray, List.length_append, List.length_take, List.length_drop, Array.length_toList, hlen2]; omega
      · have hys : ys.length = xs.length * z := how.1
        rw [← htake, ← hlen2]
        simp only [List.size_toArray, List.length_set]
        exact take_splice cur.toList u.cells.toList (i * z + off) (xs.length * z) (by omega) (show xs.length * z ≤ cur.toList.length by have e : cur.toList.length = cur.size := Array.length_toList; rw [e, hcs2]; exact hcz)
      · intro y hy
        rcases List.mem_or_eq_of_mem_set hy with h1 | rfl
        · exact hl y h1
        · have := hl cs (List.mem_of_getElem? hcs)
          simp only [putL, List.length_append, List.length_take, List.length_drop]; omega
      · intro y hy
        rw [hfl] at hy
        simp only [putL, List.mem_append] at hy
        rcases hy with (h1 | h1) | h1
        · exact hs2 y (List.mem_of_mem_take h1)
        · exact allSt_iff hst y h1
        · exact hs2 y (List.mem_of_mem_drop h1)
      · simp [World.setRow]
  · exact hh.elim

theorem Heap.pushRow (hp : Heap w0 F E h w) {e : TypeId} {z n cap : Nat} {cur : Array Value} {xs : List (List XC)} (hn : n = xs.length) (hnc : n ≤ cap) (hm : cap ≤ maxLen) (hs : cur.size = cap * z)
    (hr : RelL E xs.flatten (cur.toList.take (n * z))) (hl : ∀ l ∈ xs, l.length = z) (hst : ∀ x ∈ xs.flatten, St x) :
    ∃ E', Heap w0 F E' (h ++ [.row e z xs]) (w.alloc (.cells cur e)) ∧ EnvLe E E' ∧ RelC E' (.ow h.length) (.slice (some ⟨w.heap.size, 0, none⟩) n cap) ∧ ∀ t, After E h t w.heap.size E' (h ++ [.row e z xs]) := by
  let v : Value := .slice (some ⟨w.heap.size, 0, none⟩) n cap
  have hle : n * z ≤ cap * z := Nat.mul_le_mul_right z hnc
  refine ⟨E.push 0 v, hp.push (Fr.alloc w _) ⟨cur.toList.take (n * z), ⟨?_, .inr ⟨w.heap.size, cap, cur, ?_, Nat.zero_le _, heap_alloc_new w _, by omega, hm, hs, ?_⟩⟩, hr.mono (Env.push_le _ _ _), hl, hst⟩ (fun b hb => ?_), Env.push_le _ _ _, ?_, fun _ => After.push hp.n (fun c hc => by simp [Ow, Env.push, v, Value.ownBlock] at hc; omega)⟩
  · rw [List.length_take, Array.length_toList, hs, ← hn]; omega
  · simp [Env.push, v, hn]
  · rw [hn]
  · simp [Ow, Env.push, v, Value.ownBlock] at hb
    subst hb; simp
  · exact ⟨by rw [← hp.n]; simp [Env.push], by simp [Env.push, hp.n, v], rfl⟩

theorem Heap.pushCells (hp : Heap w0 F E h w) {t : TypeId} {cs : List XC} {vs : Array Value} (hr : RelL E cs vs.toList) :
    ∃ E', Heap w0 F E' (h ++ [.cells t cs]) (w.alloc (.cells vs t)) ∧ EnvLe E E' ∧ RelC E' (.p h.length 0) (.pointer (some ⟨w.heap.size, 0, none⟩)) ∧ ∀ t', After E h t' w.heap.size E' (h ++ [.cells t cs]) :=
  ⟨E.push w.heap.size undef, hp.alloc t hr, Env.push_le _ _ _, ⟨by rw [← hp.n]; simp [Env.push], by simp [Env.push, hp.n]⟩, fun _ => After.push hp.n (fun c hc => by simp [Ow, Env.push] at hc; omega)⟩

theorem repX_rel {E : Env} {l : List XC} {us : List Value} (hr : RelL E l us) : ∀ n, RelL E (repX n l) (List.replicate n us).flatten
  | 0 => trivial
  | n + 1 => by simp only [repX, List.replicate_succ, List.flatten_cons]; exact hr.append (repX_rel hr n)

theorem madeRow (z : Array Value) (hz : 0 < z.size) : ∀ n, ((Array.range (n * z.size)).map (fun i => z[i % z.size]!)).toList = (List.replicate n z.toList).flatten := by
  intro n
  simp only [Array.toList_map, Array.toList_range]
  induction n with
  | zero => simp
  | succ n ih =>
    rw [List.replicate_succ', List.flatten_append, ← ih, Nat.succ_mul, List.range_add, List.map_append]
    congr 1
    simp only [List.flatten_cons, List.flatten_nil, List.append_nil, List.map_map]
    apply List.ext_getElem?
    intro i
    by_cases hi : i < z.size
    · simp [hi, Nat.mul_add_mod_self_right, Nat.add_mod, Nat.mod_eq_of_lt hi]
    · simp [hi]

theorem keep_alloc (E : Env) (h : List It) (t : Option Nat) (w : World) (o : Obj) : Keep E h t w (w.alloc o) :=
  ⟨(Fr.alloc w o).size, fun b hb _ => (Fr.alloc w o).block b hb (fun x => x)⟩

include hT in
theorem effX_sound {ts : List XV} {o : Oper} {a : Act} {k : KE} (hh : effX T ts h o.op k) (hr : RelTs E ts a.tmps.toList) (hp : Heap w0 F E h w) :
    Done P w0 F E h (tchOp ts o.op) (execOp a.eval o) w a.tmps.toList k := by
  have ev := fun x => opv_rel (E := E) hr x
  unfold effX at hh
  unfold execOp
  split at hh <;> rename_i hop
  case h_7 => exact hh.elim
  all_goals (simp only [hop])
  · rename_i t
    split at hh
    case h_2 => exact hh.elim
    rename_i ti ht
    have hs := TIs.of (hT _ _ ht)
    rw [forceL_eq, lenK_eq, snocH_eq] at hh
    obtain ⟨z, hz, hzc⟩ := run_zero hs w
    obtain ⟨E', hp', hE, hv, haf⟩ := hp.pushCells (t := t) (vs := z.cells) (cs := zeroX ti.zero) (by rw [hzc]; exact zeroX_rel E _ hs.zone)
    refine ⟨_, _, _, _, _, _, E', .inl rfl, ?_, hh, hv, hr.mono hE, hp', keep_alloc E h _ w _, haf _⟩
    simp [Instr.alloc, hz, newVar, newRow]
  · rename_i t x
    split at hh
    case h_2 => exact hh.elim
    rename_i l hl
    rw [forceL_eq, lenK_eq, snocH_eq] at hh
    obtain ⟨E', hp', hE, hv, haf⟩ := hp.pushCells (t := t) (vs := (a.eval x).cells) (cs := l) (cells_rel hl (ev x))
    refine ⟨_, _, _, _, _, _, E', .inl rfl, ?_, hh, hv, hr.mono hE, hp', keep_alloc E h _ w _, haf _⟩
    simp [Instr.box, newVar, newRow]
  · rename_i t n ps
    split at hh
    case h_2 => exact hh.elim
    rename_i ti ht
    split at hh
    case h_2 => exact hh.elim
    rename_i e hkd
    have hu := mkKd_sl ((TIs.of (hT _ _ ht)).kd.symm.trans hkd)
    split at hh
    case h_2 => exact hh.elim
    rename_i ei hte
    have hs := TIs.of (hT _ _ hte)
    replace hh := when_iff hh
    obtain ⟨hb, hh⟩ := hh
    simp only [Bool.and_eq_true] at hb
    have hpos : 0 < n * ei.size := by
      have : 0 + 1 ≤ n * ei.size := by simpa [Nat.blt, Nat.ble_eq] using hb.1
      omega
    have hsmall := Nat.le_of_ble_eq_true hb.2
    rw [forceL_eq] at hh
    obtain ⟨z, hz, hzc⟩ := run_zero hs w
    have hzs : z.cells.size = ei.size := by rw [← Array.length_toList, hzc, hs.zlen]
    have hz0 : 0 < z.cells.size := by rw [hzs]; exact Nat.pos_of_mul_pos_left hpos
    have hmade := madeRow z.cells hz0 n
    rw [hzs] at hmade
    have hrz : RelL E (repX n (zeroX ei.zero)) ((Array.range (n * ei.size)).map (fun i => z.cells[i % ei.size]!)).toList := by
      rw [hmade, hzc]; exact repX_rel (zeroX_rel E _ hs.zone) n
    obtain ⟨r, vs, hh, hf, hrel, hsz⟩ := fillX_sound (us := (ps.map fun p => (p.1, a.eval p.2)).toList) hh (by simp [Function.comp_def]) (fun i x u hx hu => by
      simp only [List.map_map, Array.toList_map] at hx hu
      simp only [List.getElem?_map, Option.map_eq_some_iff] at hx hu
      obtain ⟨p, hp', rfl⟩ := hx
      obtain ⟨p', hp'', rfl⟩ := hu
      rw [hp'] at hp''; cases hp''
      exact ev _) hrz
    replace hh := when_iff hh
    obtain ⟨hb2, hh⟩ := hh
    rw [forceLL_eq, lenK_eq, snocH_eq] at hh
    simp only [Bool.and_eq_true] at hb2
    have hrl : r.length = n * ei.size := Nat.eq_of_beq_eq_true hb2.1
    obtain ⟨hfl, hcl, hcn⟩ := chunk_flat ei.size n r hrl
    have hn : n ≤ 10000 := Nat.le_trans (Nat.le_mul_of_pos_right n (Nat.pos_of_mul_pos_left hpos)) hsmall
    obtain ⟨E', hp', hE, hv, haf⟩ := hp.pushRow (e := e) (z := ei.size) (n := n) (cap := n) (cur := vs) (xs := chunk ei.size n r) hcn.symm (Nat.le_refl _) (by simp only [maxLen]; omega)
      (by rw [hsz]; simp) (by rw [hfl, List.take_of_length_le (by rw [Array.length_toList, hsz]; simp)]; exact hrel) hcl (by rw [hfl]; exact allSt_iff hb2.2)
    refine ⟨_, _, _, _, _, _, E', .inl rfl, ?_, hh, hv, hr.mono hE, hp', keep_alloc E h _ w _, haf _⟩
    have hno : ¬ (n * ei.size > 2 ^ 24) := by omega
    have hne : ¬ (n * ei.size = 0) := by omega
    simp only [Instr.buildSlice, Sem.run_bind, run_underlying hu, Result.andThen_ok, run_size hs, Sem.run_ite, hno, hne, if_false, Sem.run_pure, hz, hzs]
    simp only [hf, newRow]
    simp
  · rename_i t n c
    split at hh
    case h_2 => exact hh.elim
    rename_i ti xn xc ht hn hc
    split at hh
    case h_2 => exact hh.elim
    rename_i e l1 k1 n' l2 k2 c' hkd h1 h2
    have hu := mkKd_sl ((TIs.of (hT _ _ ht)).kd.symm.trans hkd)
    split at hh
    case h_2 => exact hh.elim
    rename_i ei hte
    have hs := TIs.of (hT _ _ hte)
    replace hh := when_iff hh
    obtain ⟨hb, hin, hh⟩ := hh
    rw [lenK_eq, snocH_eq] at hh
    simp only [Bool.and_eq_true] at hb
    have hpos : 0 < ei.size := by
      have : 0 + 1 ≤ ei.size := by simpa [Nat.blt, Nat.ble_eq] using hb.1.1
      omega
    have hby := Nat.le_of_ble_eq_true hb.1.2
    have hvn := ev n
    have hvc := ev c
    rw [hn] at hvn
    rw [hc] at hvc
    have hvn := asI_rel h1 hvn
    have hvc := asI_rel h2 hvc
    obtain ⟨i, hi, hsz, hbi, z, hz0, hzc, _, hzs⟩ := hs.info
    have hmz : ((madeCells z.cells (c'.toNat * ei.size)).toList) = (List.replicate c'.toNat z.cells.toList).flatten := by
      have := madeRow z.cells (by rw [hzs]; exact hpos) c'.toNat
      rw [hzs] at this
      rw [← this]; simp [madeCells, hzs]
    have hbytes : (i.bytes : Int) * c' ≤ 281474976710656 := by
      have h3 : ei.bytes * c'.toNat ≤ 100000000000000 := Nat.le_trans (Nat.mul_le_mul hby (show c'.toNat ≤ 1000000000 by omega)) (by decide)
      have h4 : ((ei.bytes * c'.toNat : Nat) : Int) ≤ ((100000000000000 : Nat) : Int) := Int.ofNat_le.2 h3
      rw [Int.natCast_mul, Int.toNat_of_nonneg (by omega)] at h4
      rw [hbi]; omega
    have hrun := run_make (P := P) w t e i z hu hi hz0 k1 k2 n' c' hin.1 hin.2.1 hbytes (by omega)
    have hrep : ∀ (n : Nat) (l : List Value), l.length = ei.size → ((List.replicate n l).flatten).length = n * ei.size := fun n l hl => by simp [hl]
    have htk : (madeCells z.cells (c'.toNat * ei.size)).toList.take (n'.toNat * ei.size) = (List.replicate n'.toNat z.cells.toList).flatten := by
      rw [hmz, show c'.toNat = n'.toNat + (c'.toNat - n'.toNat) by omega, ← List.replicate_append_replicate, List.flatten_append, List.take_left' (hrep _ _ (by rw [Array.length_toList, hzs]))]
    obtain ⟨E', hp', hE, hv, haf⟩ := hp.pushRow (e := e) (z := ei.size) (n := n'.toNat) (cap := c'.toNat) (cur := madeCells z.cells (c'.toNat * ei.size)) (xs := List.replicate n'.toNat (zeroX ei.zero)) (by simp) (by omega)
      (by simp only [maxLen]; omega) (by simp [madeCells]) (by rw [htk, hzc]; exact repX_rel (zeroX_rel E _ hs.zone) _) (by intro l hl; rw [List.eq_of_mem_replicate hl]; simp [zeroX, hs.zlen])
      (by intro x hx
          obtain ⟨l, hl, hx⟩ := List.mem_flatten.1 hx
          rw [List.eq_of_mem_replicate hl] at hx
          exact allSt_iff hb.2 x hx)
    refine ⟨_, _, _, _, _, _, E', .inl rfl, ?_, hh, hv, hr.mono hE, hp', keep_alloc E h _ w _, haf _⟩
    rw [hvn, hvc]
    simp [hrun, hsz]
  · exact storeX_sound hT hh (ev _) (ev _) hr hp
  · rename_i c
    obtain ⟨callee, args, argTypes⟩ := c
    simp only at hh
    split at hh
    · rename_i d s t t' e2 e3
      obtain rfl : args = #[d, s] := by cases args; simpa using e2
      obtain rfl : argTypes = #[t, t'] := by cases argTypes; simpa using e3
      replace hh := when_iff hh
      obtain ⟨ht, hh⟩ := hh
      have ht := Nat.eq_of_beq_eq_true ht
      subst ht
      have := appX_sound (ty := o.type) hT hh (ev d) (ev s) hr hp
      simpa [resolve, invoke, builtin, tchOp] using this
    · exact hh.elim
end
end Go.Eng
