/- Edges in order, those of one; who is reached, and who is on a ring: the program's functions and the reference's. -/
import Derived.Test.YtehbalkhboedeaaGSort
import Derived.Test.YtehbalkhboedeaaEngGq
namespace Go.Proofs.Ytehbalkhboedeaa
open Go Go.Eng Go.RowKit
set_option maxRecDepth 100000
set_option maxHeartbeats 4000000
set_option linter.unusedVariables false
set_option linter.unusedSimpArgs false
theorem rowsE_all (l : List Eg) : rowsOf l.length 2 (fun i j => nthC (encEg (l.getD i default)) j) = l.map encEg := by
  have := rowsE_take l l.length (Nat.le_refl _)
  rw [List.take_length, Int.toNat_natCast] at this
  exact this
theorem cloneE_fn (l : List Eg) (hl : l.length ≤ 1000000) (fx : List XC) (hfx : fx = []) : FnM Try.prog 73 [.c (egsX l)] [] fx (.c (.ow 0)) [rowE l] := by
  subst hfx
  refine FnM.of tab_ok Try.func73 (by kernel_rfl) (by kernel_rfl) (fun vs => ?_)
  conv => whnf
  refine opx_eqnil (n := l.length) tab_ok rfl rfl rfl rfl rfl (fun h0 => ?_) ?_
  · have h0 : l = [] := List.length_eq_zero_iff.1 h0
    subst h0
    conv => whnf
    refine mt_nil 64 2 ?_
    conv => whnf
    refine mt_done (v := .c (.ow 0)) (hs' := [rowE []]) (fx := []) (x := .c (.ow 1)) (h := [.held vs [], rowE []]) (ys := []) [1] 0 rfl rfl rfl rfl rfl (entV_refl _) trivial ?_
    repeat' (first | exact trivial | exact entLL_refl _ | rfl | apply And.intro)
  · conv => whnf
    refine opx_lit0 tab_ok rfl rfl rfl ?_
    conv => whnf
    rw [rowsE_all]
    refine ⟨by simp only [List.length_map, List.length_nil]; omega, ?_⟩
    conv => whnf
    refine mt_done (v := .c (.ow 0)) (hs' := [rowE l]) (fx := []) (x := .c (.ow 1)) (h := [.held vs [], .row 64 2 ([] ++ l.map encEg)]) (ys := []) [1] 0 rfl rfl rfl rfl rfl (entV_refl _) trivial ?_
    repeat' (first | exact trivial | exact entLL_refl _ | rfl | apply And.intro)
theorem gsort_fn (l : List Eg) (hl : l.length ≤ 1000000) : Eng.Fn Try.prog 62 [.c (egsX l)] (Tells (.c (egsX (unqE l)))) := by
  refine Eng.Fn.ofZ tab_ok Try.func62 (by kernel_rfl) (by kernel_rfl) trivial (fun w0 => ?_)
  conv => whnf
  refine callx_m (cloneE_fn l hl [] rfl) [] (by kernel_rfl) ⟨entV_refl _, trivial⟩ trivial ?_
  conv => whnf
  refine callx_m (sort_g_fn l (by omega) [.ow 0]) [0] (by kernel_rfl) ⟨entV_refl _, entV_refl _, trivial⟩ ?_ ?_
  · repeat' (first | exact trivial | exact ⟨rfl, rfl⟩ | exact entLL_refl _ | apply And.intro)
  conv => whnf
  have hsl : (sortE l).length = l.length := List.length_mergeSort ..
  refine callx_m (compact_fn (sortE l) (by omega)) [0] (by kernel_rfl) ⟨entV_refl _, trivial⟩ ?_ ?_
  · repeat' (first | exact trivial | exact ⟨rfl, rfl⟩ | exact entLL_refl _ | apply And.intro)
  conv => whnf
  exact row_ent2 (entLL_refl _)
theorem unqE_len (l : List Eg) : (unqE l).length ≤ l.length := by
  have key : ∀ (m : List Eg) k, (compAt m k).length ≤ k := fun m k => by
    induction k with
    | zero => exact Nat.le_refl _
    | succ k ih =>
      rw [compAt]
      split
      · omega
      · simp only [List.length_append, List.length_cons, List.length_nil]; omega
  have := key (sortE l) (sortE l).length
  have hsl : (sortE l).length = l.length := List.length_mergeSort ..
  rw [hsl] at this
  show (compAt (sortE l) (sortE l).length).length ≤ _
  rw [hsl]; exact this
def tosOf (m : List Eg) (a : Int) : List Int := (m.filter fun e => e.fr == a).map fun e => e.to
theorem tosOf_snoc (m : List Eg) (a : Int) (e : Eg) : tosOf (m ++ [e]) a = if e.fr = a then tosOf m a ++ [e.to] else tosOf m a := by
  unfold tosOf
  rw [List.filter_append, List.map_append]
  by_cases h : e.fr = a
  · simp [h]
  · simp [h]
theorem tosOf_len (m : List Eg) (a : Int) : (tosOf m a).length ≤ m.length := by
  unfold tosOf; rw [List.length_map]; exact List.length_filter_le _ _
theorem from_fn (l : List Eg) (a : Int) (hl : l.length ≤ 1000000) : Eng.Fn Try.prog 38 [.c (egsX l), .c (.i .i64 a)] (Tells (.c (intsX (fromL l a)))) := by
  refine Eng.Fn.ofZ tab_ok Try.func38 (by kernel_rfl) (by kernel_rfl) trivial (fun w0 => ?_)
  conv => whnf
  refine callx_tells (gsort_fn l hl) rfl trivial ?_
  conv => whnf
  have hml := unqE_len l
  show LoopX _ _ _ _ _
  have e : fromL l a = tosOf (unqE l) a := rfl
  rw [e]
  generalize unqE l = m at *
  refine loopx_nil 5 3 1 rfl ?_
  conv => whnf
  refine loopi tab_ok (fun k => k ≤ m.length) (fun k => [(1, .c (.i .i64 a)), (5, .c (.ow 0)), (9, .c (egsX m)), (10, .c (.i .i64 m.length)), (11, .c (.i .i64 k))]) (fun k => [rowI 3 (tosOf (m.take k) a)]) (fun k => m.length - k) 0 _ rfl (Nat.zero_le _) ?_ (fun k hk => ?_)
  · refine ⟨?_, ?_, rfl⟩ <;> repeat' (first | exact trivial | exact entV_refl _ | exact entLL_refl _ | exact ⟨rfl, rfl⟩ | rfl | apply And.intro)
  · conv => whnf
    have hel := tosOf_len (m.take k) a
    have htl : (m.take k).length = k := by rw [List.length_take]; omega
    refine And.intro (fun h1 => ?_) (fun h1 => ?_)
    · have h1 : k < m.length := by simp at h1; omega
      have htk : m.take (k + 1) = m.take k ++ [m.getD k default] := take_snocE default h1
      conv => whnf
      refine ⟨by omega, ?_⟩
      conv => whnf
      rw [Int.toNat_natCast]
      generalize m.getD k default = d at *
      refine And.intro (fun h2 => ?_) (fun h2 => ?_)
      · have h2 : d.fr = a := by simpa using h2
        conv => whnf
        refine ⟨by simp only [List.length_map, List.length_cons, List.length_nil]; omega, ?_⟩
        conv => whnf
        refine ⟨k + 1, by omega, by omega, rfl, ?_⟩
        rw [htk, tosOf_snoc, if_pos h2]
        refine ⟨?_, ?_, rfl⟩ <;> repeat' (first | exact trivial | exact entV_refl _ | exact wrap_succ (by omega) | exact entLL_of_eq (by rw [List.map_append]; rfl) | rfl | apply And.intro)
      · have h2 : ¬ d.fr = a := by simpa using h2
        conv => whnf
        refine ⟨k + 1, by omega, by omega, rfl, ?_⟩
        rw [htk, tosOf_snoc, if_neg h2]
        refine ⟨?_, ?_, rfl⟩ <;> repeat' (first | exact trivial | exact entV_refl _ | exact wrap_succ (by omega) | exact entLL_refl _ | rfl | apply And.intro)
    · have h1 : k = m.length := by simp at h1; omega
      subst h1
      rw [List.take_length]
      conv => whnf
      exact ints_ent2 (entLL_refl _)
/-! ### the reference -/
theorem rnodes_fn (l : List Eg) (hl : l.length ≤ 100000) : Eng.Fn Try.prog 59 [.c (egsX l)] (Tells (.c (intsX (nodesL l)))) := by
  refine Eng.Fn.ofZ tab_ok Try.func59 (by kernel_rfl) (by kernel_rfl) trivial (fun w0 => ?_)
  conv => whnf
  refine loopx_nil 3 3 1 rfl ?_
  conv => whnf
  refine loopi tab_ok (fun k => k ≤ l.length) (fun k => [(3, .c (.ow 0)), (6, .c (egsX l)), (7, .c (.i .i64 l.length)), (8, .c (.i .i64 k))]) (fun k => [rowI 3 (endsL (l.take k))]) (fun k => l.length - k) 0 _ rfl (Nat.zero_le _) ?_ (fun k hk => ?_)
  · refine ⟨?_, ?_, rfl⟩ <;> repeat' (first | exact trivial | exact entV_refl _ | exact entLL_refl _ | exact ⟨rfl, rfl⟩ | rfl | apply And.intro)
  · conv => whnf
    have hel := ends_len (l.take k)
    have htl : (l.take k).length = k := by rw [List.length_take]; omega
    refine And.intro (fun h1 => ?_) (fun h1 => ?_)
    · have h1 : k < l.length := by simp at h1; omega
      have htk : l.take (k + 1) = l.take k ++ [l.getD k default] := take_snocE default h1
      conv => whnf
      refine ⟨by omega, ?_⟩
      conv => whnf
      rw [Int.toNat_natCast]
      generalize l.getD k default = d at *
      refine ⟨by simp only [List.length_map, List.length_cons, List.length_nil]; omega, ?_⟩
      conv => whnf
      refine ⟨k + 1, by omega, by omega, rfl, ?_⟩
      rw [htk, ends_snoc]
      refine ⟨?_, ?_, rfl⟩ <;> repeat' (first | exact trivial | exact entV_refl _ | exact wrap_succ (by omega) | exact entLL_of_eq (by rw [List.map_append]; rfl) | rfl | apply And.intro)
    · have h1 : k = l.length := by simp at h1; omega
      subst h1
      rw [List.take_length] at hel ⊢
      conv => whnf
      refine callx_frz 0 rfl ?_
      conv => whnf
      refine callx_says (numbers_fn (endsL l) (by omega)) ⟨ints_ent2 (entLL_refl _), trivial⟩ rfl trivial ?_
      conv => whnf
      exact entV_refl (.c (intsX (nodesL l)))
theorem from_ref (l : List Eg) (a : Int) : unqI (tosOf l a) = fromL l a := by
  refine ris_ext (unqI_ris _) (from_ris l a) fun y => ?_
  rw [unqI_mem, from_mem]
  simp only [tosOf, List.mem_map, List.mem_filter, beq_iff_eq]
  constructor
  · rintro ⟨e, ⟨h1, h2⟩, h3⟩
    have : e = ⟨a, y⟩ := Eg.eq_iff.2 ⟨h2, h3⟩
    rwa [this] at h1
  · intro h; exact ⟨_, ⟨h, rfl⟩, rfl⟩
theorem rfrom_fn (l : List Eg) (a : Int) (hl : l.length ≤ 1000000) : Eng.Fn Try.prog 60 [.c (egsX l), .c (.i .i64 a)] (Tells (.c (intsX (fromL l a)))) := by
  refine Eng.Fn.ofZ tab_ok Try.func60 (by kernel_rfl) (by kernel_rfl) trivial (fun w0 => ?_)
  conv => whnf
  refine loopx_nil 5 3 1 rfl ?_
  conv => whnf
  refine loopi tab_ok (fun k => k ≤ l.length) (fun k => [(1, .c (.i .i64 a)), (5, .c (.ow 0)), (8, .c (egsX l)), (9, .c (.i .i64 l.length)), (10, .c (.i .i64 k))]) (fun k => [rowI 3 (tosOf (l.take k) a)]) (fun k => l.length - k) 0 _ rfl (Nat.zero_le _) ?_ (fun k hk => ?_)
  · refine ⟨?_, ?_, rfl⟩ <;> repeat' (first | exact trivial | exact entV_refl _ | exact entLL_refl _ | exact ⟨rfl, rfl⟩ | rfl | apply And.intro)
  · conv => whnf
    have hel := tosOf_len (l.take k) a
    have htl : (l.take k).length = k := by rw [List.length_take]; omega
    refine And.intro (fun h1 => ?_) (fun h1 => ?_)
    · have h1 : k < l.length := by simp at h1; omega
      have htk : l.take (k + 1) = l.take k ++ [l.getD k default] := take_snocE default h1
      conv => whnf
      refine ⟨by omega, ?_⟩
      conv => whnf
      rw [Int.toNat_natCast]
      generalize l.getD k default = d at *
      refine And.intro (fun h2 => ?_) (fun h2 => ?_)
      · have h2 : d.fr = a := by simpa using h2
        conv => whnf
        refine ⟨by simp only [List.length_map, List.length_cons, List.length_nil]; omega, ?_⟩
        conv => whnf
        refine ⟨k + 1, by omega, by omega, rfl, ?_⟩
        rw [htk, tosOf_snoc, if_pos h2]
        refine ⟨?_, ?_, rfl⟩ <;> repeat' (first | exact trivial | exact entV_refl _ | exact wrap_succ (by omega) | exact entLL_of_eq (by rw [List.map_append]; rfl) | rfl | apply And.intro)
      · have h2 : ¬ d.fr = a := by simpa using h2
        conv => whnf
        refine ⟨k + 1, by omega, by omega, rfl, ?_⟩
        rw [htk, tosOf_snoc, if_neg h2]
        refine ⟨?_, ?_, rfl⟩ <;> repeat' (first | exact trivial | exact entV_refl _ | exact wrap_succ (by omega) | exact entLL_refl _ | rfl | apply And.intro)
    · have h1 : k = l.length := by simp at h1; omega
      subst h1
      rw [List.take_length] at hel ⊢
      conv => whnf
      refine callx_frz 0 rfl ?_
      conv => whnf
      refine callx_says (numbers_fn (tosOf l a) (by omega)) ⟨ints_ent2 (entLL_refl _), trivial⟩ rfl trivial ?_
      conv => whnf
      rw [from_ref]
      exact entV_refl (.c (intsX (fromL l a)))
end Go.Proofs.Ytehbalkhboedeaa
