/- The engine, part E: addresses, slices, lengths, loads, and all operations that leave the world alone under one name; nothing of any program is proved here. -/
import Derived.Test.YtbhmplbckkipjaaEngD
namespace Go.Eng
open Go Go.RowKit
set_option linter.unusedSimpArgs false
set_option linter.unusedVariables false

def itemAt : List It → Nat → It
  | [], _ => .dead
  | a :: _, 0 => a
  | _ :: l, n + 1 => itemAt l n
theorem itemAt_eq : ∀ (l : List It) (n : Nat) {x : It}, itemAt l n = x → x ≠ .dead → l[n]? = some x
  | [], _, x, h, hx => absurd h.symm hx
  | a :: _, 0, x, h, _ => by simpa [itemAt] using h
  | _ :: l, n + 1, x, h, hx => by simpa [itemAt] using itemAt_eq l n h hx

/-- The worlds in which what may be read lies as in w. -/
def Same (E : Env) (h : List It) (rd : Nat → Bool) (w w' : World) : Prop :=
  E.bs.ok w' ∧ ∀ k x b, h[k]? = some x → rd k = true → Ow E k x b → w'.heap[b]? = w.heap[b]?

theorem Base.cell {b : Base} {w : World} (h : b.ok w) {a : Addr} (ha : b.B a.block) : w.cell? a = b.wb.cell? a := by
  simp [World.cell?, (h a.block ha).2]

section
variable {P : Program} {T : Tab} (hT : TabOk P T) {E : Env} {h : List It} {w0 : Org} {w : World} {F : Nat → Prop} {rd : Nat → Bool}

def faddrX (T : Tab) (s : TypeId) (x : XV) (f : Nat) (k : XV → Prop) : Prop :=
  match T s with
  | some ti => (match ti.kd with
    | .st fs => (match fs[f]? with
      | some (o, ft) => (match T ft with
        | some fi => when (Nat.blt 0 fi.size) (match x with
          | .c (.p it off) => k (.c (.p it (off + o)))
          | .c (.ep m g) => k (.c (.ep (m - o) fun j => g (o + j)))
          | .c (.q it i z off) => k (.c (.q it i z (off + o)))
          | _ => False)
        | none => False)
      | none => False)
    | _ => False)
  | none => False

theorem ep_add {m o : Nat} {g : Nat → XC} {u : Value} (hx : RelC E (.ep m g) u) : ∃ ad : Addr, u = .pointer (some ad) ∧ RelC E (.ep (m - o) fun j => g (o + j)) (.pointer (some (ad.add o))) := by
  obtain ⟨ad, rfl, hc⟩ := hx
  refine ⟨ad, rfl, ad.add o, rfl, fun j hj => ?_⟩
  obtain ⟨hb, v, hv, hr⟩ := hc (o + j) (by omega)
  exact ⟨by rw [block_add]; exact hb, v, by rw [add_add]; exact hv, hr⟩

include hT in
theorem faddrX_sound {S : World → Prop} {s : TypeId} {x : XV} {u : Value} {f : Nat} {k : XV → Prop} (hh : faddrX T s x f k) (hx : RelV E x u) : Gives P S (Instr.fieldAt s u f) E k := by
  unfold faddrX at hh
  split at hh
  case h_2 => exact hh.elim
  rename_i ti ht
  split at hh
  case h_2 => exact hh.elim
  rename_i fs hkd
  obtain ⟨fields, hu, rfl⟩ := mkKd_st ((TIs.of (hT _ _ ht)).kd.symm.trans hkd)
  split at hh
  case h_2 => exact hh.elim
  rename_i o ft hf
  split at hh
  case h_2 => exact hh.elim
  rename_i fi hft
  have hs := TIs.of (hT _ _ hft)
  replace hh := when_iff hh; obtain ⟨hz, hh⟩ := hh
  have hz : fi.size ≠ 0 := by
    have : 0 + 1 ≤ fi.size := by simpa [Nat.blt, Nat.ble_eq] using hz
    omega
  simp only [List.getElem?_map, Option.map_eq_some_iff, Prod.mk.injEq] at hf
  obtain ⟨fd, hfd, rfl, rfl⟩ := hf
  have hfa : fields[f]? = some fd := by simpa using hfd
  have run : ∀ (ad : Addr) (W : World), (Instr.fieldAt s (.pointer (some ad)) f).run P W = .ok (.pointer (some (ad.add fd.offset))) W := fun ad W => by
    simp [Instr.fieldAt, run_underlying hu, hfa, Instr.sureAddr, fieldPlace, run_size hs, hz]
  split at hh
  · rename_i it off
    obtain ⟨hn, rfl⟩ := hx
    exact Gives.mk hh (show RelC E (.p _ _) (.pointer (some ⟨E.blk it, off + fd.offset, none⟩)) from ⟨hn, rfl⟩) (fun W _ => by rw [run, add_lit])
  · obtain ⟨ad, rfl, hr⟩ := ep_add (E := E) (o := fd.offset) hx
    exact Gives.mk hh hr (fun W _ => run ad W)
  · rename_i it i z off
    obtain ⟨hn, g, n, c, he, rfl⟩ := hx
    exact Gives.mk hh (show RelC E (.q it i z (off + fd.offset)) (.pointer (some ⟨g, i * z + off + fd.offset, none⟩)) from ⟨hn, g, n, c, he, by rw [Nat.add_assoc]⟩) (fun W _ => by rw [run, add_lit])
  · exact hh.elim

def iaddrX (T : Tab) (t : TypeId) (x y : XV) (h : List It) (k : XV → Prop) : Prop :=
  match y with
  | .c y => (match asI y with
    | some (l, _, i) => (match T t with
      | some ti => (match ti.kd with
        | .arr n e => (match T e with
          | some ei => inside l i n (match x with
            | .c (.p it off) => k (.c (.p it (off + i.toNat * ei.size)))
            | .c (.ep m g) => k (.c (.ep (m - i.toNat * ei.size) fun j => g (i.toNat * ei.size + j)))
            | _ => False)
          | none => False)
        | .sl e => (match T e with
          | some ei => (match x with
            | .c (.rs n z f) => when (Nat.beq z ei.size) (inside false i n (k (.c (.ep z (f i.toNat)))))
            | .c (.ow it) => (match itemAt h it with
              | .row _ z xs => when (Nat.beq z ei.size) (inside false i xs.length (k (.c (.q it i.toNat z 0))))
              | .prow _ z as _ => when (Nat.beq z ei.size) (inside false i as.length (k (.c (.q it i.toNat z 0))))
              | _ => False)
            | .c (.sp it off n z) => when (Nat.beq z ei.size) (inside l i n (k (.c (.p it (off + i.toNat * z)))))
            | _ => False)
          | none => False)
        | _ => False)
      | none => False)
    | none => False)
  | _ => False

theorem run_iaddr_arr {t e : TypeId} {n : Nat} {ei : TI} (hu : P.underlying t = some (.array n e)) (hs : TIs P e ei) (ad : Addr) (kd : IntKind) (i : Int) (hin : 0 ≤ i ∧ i < (n : Int)) (W : World) :
    (Instr.indexAt t (.pointer (some ad)) (.int kd i)).run P W = .ok (.pointer (some (ad.add (i.toNat * ei.size)))) W := by
  simp [Instr.indexAt, asIntOf, run_underlying hu, Instr.sureAddr, hin, run_size hs]
theorem run_iaddr_sl {t e : TypeId} {n c : Nat} {ei : TI} (hu : P.underlying t = some (.slice e)) (hs : TIs P e ei) (ad : Addr) (kd : IntKind) (i : Int) (hin : 0 ≤ i ∧ i < (n : Int)) (W : World) :
    (Instr.indexAt t (.slice (some ad) n c) (.int kd i)).run P W = .ok (.pointer (some (ad.add (i.toNat * ei.size)))) W := by
  simp [Instr.indexAt, asIntOf, run_underlying hu, hin, run_size hs]

include hT in
theorem iaddrX_sound {S : World → Prop} {t : TypeId} {x y : XV} {u v : Value} {k : XV → Prop} (hh : iaddrX T t x y h k) (hx : RelV E x u) (hy : RelV E y v) (hp : Heap w0 F E h w) :
    Gives P S (Instr.indexAt t u v) E k := by
  unfold iaddrX at hh
  split at hh
  case h_2 => exact hh.elim
  split at hh
  case h_2 => exact hh.elim
  rename_i y l kd i hi
  have hv := asI_rel hi hy
  subst hv
  split at hh
  case h_2 => exact hh.elim
  rename_i ti ht
  split at hh
  · rename_i n e hkd
    have hu := mkKd_arr ((TIs.of (hT _ _ ht)).kd.symm.trans hkd)
    split at hh
    case h_2 => exact hh.elim
    rename_i ei hte
    have hs := TIs.of (hT _ _ hte)
    replace hh := inside_iff hh; obtain ⟨hin, hh⟩ := hh
    split at hh
    · rename_i it off
      obtain ⟨hn, rfl⟩ := hx
      exact Gives.mk hh (show RelC E (.p _ _) (.pointer (some ⟨E.blk it, off + i.toNat * ei.size, none⟩)) from ⟨hn, rfl⟩) (fun W _ => by rw [run_iaddr_arr hu hs _ _ _ hin, add_lit])
    · obtain ⟨ad, rfl, hr⟩ := ep_add (E := E) (o := i.toNat * ei.size) hx
      exact Gives.mk hh hr (fun W _ => run_iaddr_arr hu hs ad _ _ hin W)
    · exact hh.elim
  · rename_i e hkd
    have hu := mkKd_sl ((TIs.of (hT _ _ ht)).kd.symm.trans hkd)
    split at hh
    case h_2 => exact hh.elim
    rename_i ei hte
    have hs := TIs.of (hT _ _ hte)
    split at hh
    · rename_i n z f
      replace hh := when_iff hh; obtain ⟨hz, hh⟩ := hh
      have hz := Nat.eq_of_beq_eq_true hz
      replace hh := inside_iff hh; obtain ⟨hin, hk⟩ := hh
      obtain ⟨A, c, rfl, _, _, hc⟩ := hx
      obtain ⟨ad, rfl, hcell⟩ := hc i.toNat (by omega)
      refine Gives.mk hk (show RelC E (.ep z (f i.toNat)) (.pointer (some (ad.add (i.toNat * ei.size)))) from ⟨_, rfl, fun j hj => ?_⟩) (fun W _ => run_iaddr_sl hu hs ad _ _ hin W)
      obtain ⟨hb, v, hv, hr⟩ := hcell j hj
      exact ⟨by rw [block_add]; exact hb, v, by rw [add_add, ← hz]; exact hv, hr⟩
    · rename_i it
      split at hh
      case h_3 => exact hh.elim
      · rename_i e' z xs hit
        replace hh := when_iff hh; obtain ⟨hz, hh⟩ := hh
        have hz := Nat.eq_of_beq_eq_true hz
        replace hh := inside_iff hh; obtain ⟨hin, hk⟩ := hh
        obtain ⟨ys, how, _, _⟩ := hp.ok it _ (itemAt_eq _ _ hit (by simp))
        obtain ⟨hn, rfl, _⟩ := hx
        rcases how.2 with ⟨_, h0⟩ | ⟨g, cap, cur, hsl, _⟩
        · omega
        · rw [hsl]
          refine Gives.mk hk (show RelC E (.q it i.toNat z 0) (.pointer (some ⟨g, i.toNat * z + 0, none⟩)) from ⟨hn, g, _, _, hsl, rfl⟩) (fun W _ => ?_)
          rw [run_iaddr_sl hu hs _ _ _ hin, add_lit, hz]; simp
      · rename_i e' z as o hit
        replace hh := when_iff hh; obtain ⟨hz, hh⟩ := hh
        have hz := Nat.eq_of_beq_eq_true hz
        replace hh := inside_iff hh; obtain ⟨hin, hk⟩ := hh
        obtain ⟨ys, Ss, hpr⟩ := hp.ok it _ (itemAt_eq _ _ hit (by simp))
        obtain ⟨hn, rfl, _⟩ := hx
        rcases hpr.row.2 with ⟨_, h0⟩ | ⟨g, cap, cur, hsl, _⟩
        · omega
        · rw [hsl]
          refine Gives.mk hk (show RelC E (.q it i.toNat z 0) (.pointer (some ⟨g, i.toNat * z + 0, none⟩)) from ⟨hn, g, _, _, hsl, rfl⟩) (fun W _ => ?_)
          rw [run_iaddr_sl hu hs _ _ _ hin, add_lit, hz]; simp
    · rename_i it off n z
      replace hh := when_iff hh; obtain ⟨hz, hh⟩ := hh
      have hz := Nat.eq_of_beq_eq_true hz
      replace hh := inside_iff hh; obtain ⟨hin, hk⟩ := hh
      obtain ⟨hn, c, rfl, _⟩ := hx
      exact Gives.mk hk (show RelC E (.p _ _) (.pointer (some ⟨E.blk it, off + i.toNat * z, none⟩)) from ⟨hn, rfl⟩) (fun W _ => by rw [run_iaddr_sl hu hs _ _ _ hin, add_lit, hz])
    · exact hh.elim
  · exact hh.elim

def loadX (T : Tab) (t : TypeId) (x : XV) (h : List It) (rd : Nat → Bool) (k : XV → Prop) : Prop :=
  match T t with
  | some ti => (match x with
    | .c (.p it off) => when (rd it) (match itemAt h it with
      | .cells _ cs => cutK cs off ti.size fun l => mkX ti.agg l k
      | _ => False)
    | .c (.ep m g) => when (Nat.ble ti.size m) (genK ti.size 0 g fun l => mkX ti.agg l k)
    | .c (.q it i z off) => when (rd it) (match itemAt h it with
      | .row _ z' xs => when (Nat.beq z z') (∃ cs, xs[i]? = some cs ∧ cutK cs off ti.size fun l => mkX ti.agg l k)
      | .prow _ z' as o => when (Nat.beq z z') (match o with
        | some (i', cs) => (i = i' ∧ cutK cs off ti.size fun l => mkX ti.agg l k) ∨ (i ≠ i' ∧ ∃ a, as[i]? = some a ∧ cutK a.pk off ti.size fun l => mkX ti.agg l k)
        | none => ∃ a, as[i]? = some a ∧ cutK a.pk off ti.size fun l => mkX ti.agg l k)
      | _ => False)
    | _ => False)
  | none => False

theorem RelL.range {E : Env} {f : Nat → XC} {g : Nat → Value} : ∀ (n o : Nat), (∀ j, o ≤ j → j < o + n → RelC E (f j) (g j)) → RelL E ((List.range' o n).map f) ((List.range' o n).map g)
  | 0, _, _ => trivial
  | n + 1, o, hh => by
    simp only [List.range'_succ, List.map_cons]
    exact ⟨hh o (Nat.le_refl _) (by omega), RelL.range n (o + 1) fun j h1 h2 => hh j (by omega) (by omega)⟩

theorem flatten_at {z : Nat} : ∀ (xs : List (List XC)) (i : Nat) (cs : List XC), (∀ l ∈ xs, l.length = z) → xs[i]? = some cs → (xs.flatten.drop (i * z)).take z = cs
  | x :: xs, 0, cs, hl, hi => by
    simp at hi; subst hi
    have := hl x (by simp)
    simp [← this]
  | x :: xs, i + 1, cs, hl, hi => by
    have hx := hl x (by simp)
    have := flatten_at xs i cs (fun l hl' => hl l (by simp [hl'])) (by simpa using hi)
    rw [List.flatten_cons, Nat.succ_mul, Nat.add_comm, ← List.drop_drop]
    rw [← hx, List.drop_left, hx]; exact this

include hT in
theorem loadX_sound {t : TypeId} {x : XV} {u : Value} {k : XV → Prop} (hh : loadX T t x h rd k) (hx : RelV E x u) (hp : Heap w0 F E h w) :
    Gives P (Same E h rd w) (Instr.loadAt t u) E k := by
  unfold loadX at hh
  split at hh
  case h_2 => exact hh.elim
  rename_i ti ht
  have hs := TIs.of (hT _ _ ht)
  split at hh
  · rename_i it off
    replace hh := when_iff hh; obtain ⟨hrd, hh⟩ := hh
    split at hh
    case h_2 => exact hh.elim
    rename_i ty cs hit
    have hi := itemAt_eq _ _ hit (by simp)
    obtain ⟨vs, hb, hr⟩ := hp.ok it _ hi
    obtain ⟨hn, rfl⟩ := hx
    obtain ⟨hlen, hm⟩ := cutK_iff hh
    have hr' := (hr.drop off).take ti.size
    obtain ⟨y, hk, hy⟩ := mkX_sound hm hr'
    refine ⟨y, _, hk, hy, fun W hW => ?_⟩
    have hWb : W.heap[E.blk it]? = some (.cells vs ty (0, 0)) := (hW.2 it _ _ hi hrd rfl).trans hb
    simp only [Instr.loadAt, Instr.sureAddr, Sem.run_bind, Sem.run_pure, Result.andThen_ok]
    refine run_loadVar hs W _ _ (hr'.len.symm.trans hlen) (fun j v hv => ?_)
    rw [add_lit, cell_of_row W _ _ vs ty (0, 0) hWb]
    have hj : j < ti.size := by
      have := (List.getElem?_eq_some_iff.1 hv).1
      rw [← hr'.len, hlen] at this; exact this
    rw [List.getElem?_take, if_pos hj, List.getElem?_drop] at hv
    simpa using hv
  · rename_i m g
    replace hh := when_iff hh; obtain ⟨hm, hh⟩ := hh
    have hm : ti.size ≤ m := Nat.le_of_ble_eq_true hm
    rw [genK_eq] at hh
    obtain ⟨ad, rfl, hc⟩ := hx
    have hc' : ∀ j, ∃ u, j < ti.size → E.bs.B ad.block ∧ E.bs.wb.cell? (ad.add j) = some u ∧ RelC E (g j) u := fun j => by
      by_cases hj : j < ti.size
      · obtain ⟨hb, u, hu, hr⟩ := hc j (by omega)
        exact ⟨u, fun _ => ⟨hb, hu, hr.2⟩⟩
      · exact ⟨undef, fun h' => absurd h' hj⟩
    obtain ⟨G, hG⟩ := Classical.axiomOfChoice hc'
    have hr : RelL E ((List.range' 0 ti.size).map g) ((List.range' 0 ti.size).map G) := RelL.range _ _ fun j _ hj => (hG j (by omega)).2.2
    obtain ⟨y, hk, hy⟩ := mkX_sound hh hr
    refine ⟨y, _, hk, hy, fun W hW => ?_⟩
    simp only [Instr.loadAt, Instr.sureAddr, Sem.run_bind, Sem.run_pure, Result.andThen_ok]
    refine run_loadVar hs W _ _ (by simp) (fun j v hv => ?_)
    have hj : j < ti.size := by
      have := (List.getElem?_eq_some_iff.1 hv).1
      simpa using this
    obtain ⟨hb, hu, _⟩ := hG j hj
    rw [Base.cell hW.1 (by rw [block_add]; exact hb), hu]
    simp [hj] at hv
    rw [hv]
  · rename_i it i z off
    replace hh := when_iff hh; obtain ⟨hrd, hh⟩ := hh
    have fin : ∀ {X : It} {e n0 : Nat} {ys : List Value} {cs : List XC}, h[it]? = some X → (∀ b, (E.sl it).ownBlock = some b → Ow E it X b) → w.ownsRow 0 e z (E.sl it) n0 ys → RelL E cs ((ys.drop (i * z)).take z) → (cutK cs off ti.size fun l => mkX ti.agg l k) → Gives P (Same E h rd w) (Instr.loadAt t u) E k := by
     intro X e n0 ys cs hi howX how hr1 hm
     obtain ⟨_, g, n, c, hsl, rfl⟩ := hx
     obtain ⟨hlen, hm⟩ := cutK_iff hm
     have hr' := (hr1.drop off).take ti.size
     obtain ⟨y, hk, hy⟩ := mkX_sound hm hr'
     refine ⟨y, _, hk, hy, fun W hW => ?_⟩
     have hown : Ow E it X g := howX g (by simp [hsl, Value.ownBlock])
     have hWb := hW.2 it _ _ hi hrd hown
     simp only [Instr.loadAt, Instr.sureAddr, Sem.run_bind, Sem.run_pure, Result.andThen_ok]
     refine run_loadVar hs W _ _ (hr'.len.symm.trans hlen) (fun j v hv => ?_)
     have hj : j < ti.size := by
       have := (List.getElem?_eq_some_iff.1 hv).1
       rw [← hr'.len, hlen] at this; exact this
     rw [List.getElem?_take, if_pos hj, List.getElem?_drop, List.getElem?_take] at hv
     split at hv
     case isFalse => cases hv
     rw [List.getElem?_drop] at hv
     have := how.cells (g := g) (by simp [hsl, Value.ownBlock]) _ _ hv
     rw [add_lit] at this ⊢
     rw [World.cell?_of_block (w := w) hWb, show i * z + off + j = 0 + (i * z + (off + j)) by omega]; exact this
    split at hh
    case h_3 => exact hh.elim
    · rename_i e z' xs hit
      replace hh := when_iff hh; obtain ⟨hz, hh⟩ := hh
      have hz := Nat.eq_of_beq_eq_true hz
      subst hz
      obtain ⟨cs, hcs, hm⟩ := hh
      have hi := itemAt_eq _ _ hit (by simp)
      obtain ⟨ys, how, hr, hl, _⟩ := hp.ok it _ hi
      have hfl := flatten_at xs i cs hl hcs
      have hr1 := (hr.drop (i * z)).take z
      rw [hfl] at hr1
      exact fin hi (fun b hb => hb) how hr1 hm
    · rename_i e z' as o hit
      replace hh := when_iff hh; obtain ⟨hz, hh⟩ := hh
      have hz := Nat.eq_of_beq_eq_true hz
      subst hz
      have hi := itemAt_eq _ _ hit (by simp)
      obtain ⟨ys, Ss, hpr⟩ := hp.ok it _ hi
      have peek : ∀ {a : AbsL}, as[i]? = some a → (∀ cs, o ≠ some (i, cs)) → (cutK a.pk off ti.size fun l => mkX ti.agg l k) → Gives P (Same E h rd w) (Instr.loadAt t u) E k := fun ha ho hm =>
        fin hi (fun b hb => hpr.blk b hb) hpr.row (AbsL.pkOk _ (hpr.el i _ ha ho) E fun _ hb => ⟨hb, rfl⟩) hm
      split at hh
      · rename_i i' cs
        rcases hh with ⟨rfl, hm⟩ | ⟨hne, a, ha, hm⟩
        · exact fin hi (fun b hb => hpr.blk b hb) hpr.row (hpr.op _ _ rfl).2.2 hm
        · exact peek ha (fun cs' e => by cases e; exact hne rfl) hm
      · obtain ⟨a, ha, hm⟩ := hh
        exact peek ha (fun cs' e => by cases e) hm
  · exact hh.elim

def lenX (T : Tab) (t : TypeId) (x : XV) (h : List It) (k : XV → Prop) : Prop :=
  match T t with
  | some ti => (match ti.kd with
    | .sl _ => (match x with
      | .c (.rs n _ _) => k (.c (.i .i64 n))
      | .c (.ow it) => (match itemAt h it with
        | .row _ _ xs => k (.c (.i .i64 xs.length))
        | .prow _ _ as _ => k (.c (.i .i64 as.length))
        | _ => False)
      | .c (.sp _ _ n _) => k (.c (.i .i64 n))
      | .c (.v (.slice none 0 0)) => k (.c (.il .i64 0))
      | .c (.v (.slice _ n _)) => k (.c (.i .i64 n))
      | _ => False)
    | .str => (match x with
      | .c (.v (.string s)) => k (.c (.i .i64 s.size))
      | _ => False)
    | .arr n _ => k (.c (.il .i64 n))
    | _ => False)
  | none => False

theorem run_len_sl {t e ty : TypeId} (hu : P.underlying t = some (.slice e)) (a : Option Addr) (n c : Nat) (W : World) : (Builtin.len_ #[t] ty #[.slice a n c]).run P W = .ok (goInt n) W := by
  simp [Builtin.len_, run_underlying hu]

include hT in
theorem lenX_sound {S : World → Prop} {t ty : TypeId} {x : XV} {u : Value} {k : XV → Prop} (hh : lenX T t x h k) (hx : RelV E x u) (hp : Heap w0 F E h w) : Gives P S (Builtin.len_ #[t] ty #[u]) E k := by
  unfold lenX at hh
  split at hh
  case h_2 => exact hh.elim
  rename_i ti ht
  have hkd' := (TIs.of (hT _ _ ht)).kd
  split at hh
  · rename_i e hkd
    have hu := mkKd_sl (hkd'.symm.trans hkd)
    split at hh
    · obtain ⟨A, c, rfl, _⟩ := hx
      exact Gives.mk hh (show RelC E (.i _ _) (goInt _) from rfl) (fun W _ => run_len_sl hu _ _ _ W)
    · rename_i it
      split at hh
      case h_3 => exact hh.elim
      · rename_i e' z xs hit
        obtain ⟨ys, how, _, _⟩ := hp.ok it _ (itemAt_eq _ _ hit (by simp))
        obtain ⟨hn, rfl, _⟩ := hx
        rcases how.2 with ⟨hsl, h0⟩ | ⟨g, cap, cur, hsl, _⟩
        · rw [hsl]; exact Gives.mk hh (show RelC E (.i _ _) (goInt (0 : Nat)) from by rw [h0]; rfl) (fun W _ => run_len_sl hu _ _ _ W)
        · rw [hsl]; exact Gives.mk hh (show RelC E (.i _ _) (goInt _) from rfl) (fun W _ => run_len_sl hu _ _ _ W)
      · rename_i e' z as o hit
        obtain ⟨ys, Ss, hpr⟩ := hp.ok it _ (itemAt_eq _ _ hit (by simp))
        obtain ⟨hn, rfl, _⟩ := hx
        rcases hpr.row.2 with ⟨hsl, h0⟩ | ⟨g, cap, cur, hsl, _⟩
        · rw [hsl]; exact Gives.mk hh (show RelC E (.i _ _) (goInt (0 : Nat)) from by rw [h0]; rfl) (fun W _ => run_len_sl hu _ _ _ W)
        · rw [hsl]; exact Gives.mk hh (show RelC E (.i _ _) (goInt _) from rfl) (fun W _ => run_len_sl hu _ _ _ W)
    · obtain ⟨_, c, rfl, _⟩ := hx
      exact Gives.mk hh (show RelC E (.i _ _) (goInt _) from rfl) (fun W _ => run_len_sl hu _ _ _ W)
    · have : u = .slice none 0 0 := hx.1
      subst this
      exact Gives.mk hh (show RelC E (.il _ _) (goInt (0 : Nat)) from rfl) (fun W _ => run_len_sl hu _ _ _ W)
    · rename_i a n c _
      have : u = .slice a n c := hx.1
      subst this
      exact Gives.mk hh (show RelC E (.i _ _) (goInt _) from rfl) (fun W _ => run_len_sl hu _ _ _ W)
    · exact hh.elim
  · rename_i hkd
    have hu := mkKd_str (hkd'.symm.trans hkd)
    split at hh
    · rename_i s
      have : u = .string s := hx.1
      subst this
      exact Gives.mk hh (show RelC E (.i _ _) (goInt _) from rfl) (fun W _ => run_len_string W t ty s hu)
    · exact hh.elim
  · rename_i n e hkd
    have hu := mkKd_arr (hkd'.symm.trans hkd)
    exact Gives.mk hh (show RelC E (.il _ _) (goInt n) from rfl) (fun W _ => by cases u <;> simp [Builtin.len_, run_underlying hu])
  · exact hh.elim
end
end Go.Eng
