/- The document's operation with whose bytes others begin. -/
import Derived.Test.YtbhmplbckkipjaaOpOf
namespace Go.Proofs.Ytbhmplbckkipjaa
open Go Go.Eng Go.RowKit
set_option maxRecDepth 100000
set_option maxHeartbeats 4000000
set_option linter.unusedVariables false
set_option linter.unusedSimpArgs false
theorem be2_w {l : List Int} (hb : Bytes l) {i j k : Nat} (hi : i = k) (hj : j = k + 1) : IntKind.i64.wrap (IntKind.i64.wrap (IntKind.i64.wrap (l.getD i 0) * 256) + IntKind.i64.wrap (l.getD j 0)) = be2 l k := by
  subst hi hj
  have h1 := hb i
  have h2 := hb (i + 1)
  simp only [be2, IntKind.wrap_i64]
  simp only [at8] at *
  omega
theorem be4_w {l : List Int} (hb : Bytes l) {i0 i1 i2 i3 k : Nat} (h0 : i0 = k) (h1 : i1 = k + 1) (h2 : i2 = k + 2) (h3 : i3 = k + 3) :
    IntKind.i64.wrap (IntKind.i64.wrap (IntKind.i64.wrap (IntKind.i64.wrap (IntKind.i64.wrap (IntKind.i64.wrap (IntKind.i64.wrap (IntKind.i64.wrap (0 * 256) + IntKind.i64.wrap (l.getD i0 0)) * 256) + IntKind.i64.wrap (l.getD i1 0)) * 256) + IntKind.i64.wrap (l.getD i2 0)) * 256) + IntKind.i64.wrap (l.getD i3 0)) = be4 l k := by
  subst h0 h1 h2 h3
  have h0 := hb i0
  have h1 := hb (i0 + 1)
  have h2 := hb (i0 + 2)
  have h3 := hb (i0 + 3)
  simp only [be4, IntKind.wrap_i64]
  simp only [at8] at *
  omega
theorem refOf_fn (l : List Int) (hl : l.length ≤ 1000000) (hb : Bytes l) : Eng.Fn Try.prog 83 [.c (bytesX l)] (Tells (.t [.a (encO (ofR l).1), .c (.i .i64 (ofR l).2.1), .c (.i .i64 (ofR l).2.2)])) := by
  refine Eng.Fn.of tab_ok Try.func83 (by kernel_rfl) (by kernel_rfl) (fun w0 => ?_)
  have hb0 : 0 ≤ at8 l 0 ∧ at8 l 0 ≤ 255 := hb 0
  conv => whnf
  refine And.intro (fun h1 => ?_) (fun h1 => ?_)
  · have h2 : l = [] := List.eq_nil_of_length_eq_zero (by simpa using h1)
    conv => whnf
    rw [ofR, if_neg (fun g => g.1 h2)]
    repeat' (first | exact trivial | exact ⟨rfl, rfl⟩ | exact rfl | apply And.intro)
  · conv => whnf
    have h2 : 0 < l.length := by have : ¬ (l.length : Int) = 0 := by simpa using h1
                                 omega
    refine ⟨by omega, ?_⟩
    conv => whnf
    refine ⟨by omega, ?_⟩
    conv => whnf
    have ek : IntKind.i64.wrap ((IntKind.i64.wrap (l.getD (Int.toNat 0) 0)).tdiv 8) = kdI l := by
      show IntKind.i64.wrap ((IntKind.i64.wrap (at8 l 0)).tdiv 8) = at8 l 0 / 8
      have : IntKind.i64.wrap (at8 l 0) = at8 l 0 := by rw [IntKind.wrap_i64]; omega
      rw [this, Int.tdiv_eq_ediv_of_nonneg hb0.1, IntKind.wrap_i64]; omega
    have ed : (IntKind.i64.wrap (l.getD (Int.toNat 0) 0)).tmod 8 = dpI l := by
      show (IntKind.i64.wrap (at8 l 0)).tmod 8 = at8 l 0 % 8
      have : IntKind.i64.wrap (at8 l 0) = at8 l 0 := by rw [IntKind.wrap_i64]; omega
      rw [this, Int.tmod_eq_emod_of_nonneg hb0.1]
    have hdp : 0 ≤ dpI l ∧ dpI l ≤ 7 := by unfold dpI; omega
    have es : IntKind.i64.wrap (1 + IntKind.i64.wrap (2 * dpI l)) = 1 + 2 * dpI l := by simp only [IntKind.wrap_i64]; omega
    have es4 : IntKind.i64.wrap (1 + 2 * dpI l + 4) = 1 + 2 * dpI l + 4 := by simp only [IntKind.wrap_i64]; omega
    rw [ek, ed, es]
    refine And.intro (fun h3 => ?_) (fun h3 => ?_)
    · have h3 : kdI l = 4 := by simpa using h3
      conv => whnf
      rw [es4]
      have hsz : sizeI l = 1 + 2 * dpI l + 4 := by simp [sizeI, h3]
      refine And.intro (fun h4 => ?_) (fun h4 => ?_)
      · have h4 : dpI l > 4 := by simpa using h4
        conv => whnf
        rw [ofR, if_neg (fun g => by have := g.n4; omega)]
        repeat' (first | exact trivial | exact ⟨rfl, rfl⟩ | exact rfl | apply And.intro)
      · have h4 : dpI l ≤ 4 := by simpa using h4
        conv => whnf
        refine And.intro (fun h5 => ?_) (fun h5 => ?_)
        · have h5 : (l.length : Int) < 1 + 2 * dpI l + 4 := by simpa using h5
          conv => whnf
          rw [ofR, if_neg (fun g => by have := g.2.1; omega)]
          repeat' (first | exact trivial | exact ⟨rfl, rfl⟩ | exact rfl | apply And.intro)
        · have h5 : 1 + 2 * dpI l + 4 ≤ (l.length : Int) := by simpa using h5
          generalize hD : dpI l = D at h4 h5 hdp hsz
          have fn : (opOf l).p.n = D := hD
          have fa : (opOf l).p.a = if (0 : Int) < D then be2 l 1 else 0 := by rw [← hD]; rfl
          have fb : (opOf l).p.b = if (1 : Int) < D then be2 l 3 else 0 := by rw [← hD]; rfl
          have fc : (opOf l).p.c = if (2 : Int) < D then be2 l 5 else 0 := by rw [← hD]; rfl
          have fd : (opOf l).p.d = if (3 : Int) < D then be2 l 7 else 0 := by rw [← hD]; rfl
          have fv : (opOf l).v = if kdI l = 4 then be4 l (1 + 2 * D.toNat) else 0 := by rw [← hD]; rfl
          have hd : D = 0 ∨ D = 1 ∨ D = 2 ∨ D = 3 ∨ D = 4 := by omega
          rcases hd with rfl | rfl | rfl | rfl | rfl
          all_goals
            conv => whnf
            repeat' (first
              | (refine loopx_rounds tab_ok 6 ?_; conv => whnf)
              | (refine And.intro (fun h => absurd h (by decide)) (fun _ => ?_); conv => whnf)
              | (refine And.intro (fun _ => ?_) (fun h => absurd h (by decide)); conv => whnf)
              | (refine And.intro (fun _ => ?_) (fun h => absurd h (by rw [h3]; decide)); conv => whnf)
              | (refine And.intro (by simp only [IntKind.wrap_i64]; omega) ?_; conv => whnf)
              | (refine drawx_plan tab_ok [1] (.take 0 (.take 1 (.take 2 (.take 3 (.take 4 (.take 5 (.take 6 (.take 7 (.take 8 (.take 9 (.take 10 (.take 11 (.take 12 (.take 13 (.take 14 (.take 15 (.take 16 (.take 17 (.take 18 (.take 19 (.one 20 .done))))))))))))))))))))) (by kernel_rfl) (by kernel_rfl) (by kernel_rfl) ?_; conv => whnf))
            refine callx_says (refCheck_fn (opOf l)) ⟨?_, trivial⟩ rfl trivial ?_
            · refine ⟨⟨rfl, rfl⟩, ⟨rfl, ?_⟩, ⟨rfl, ?_⟩, ⟨rfl, ?_⟩, ⟨rfl, ?_⟩, ⟨rfl, fn.symm⟩, ⟨rfl, ?_⟩, trivial⟩
              all_goals first
                | (rw [fa]; first | (rw [if_neg (by decide)]; done) | (rw [if_pos (by decide)]; exact be2_w hb rfl rfl))
                | (rw [fb]; first | (rw [if_neg (by decide)]; done) | (rw [if_pos (by decide)]; exact be2_w hb rfl rfl))
                | (rw [fc]; first | (rw [if_neg (by decide)]; done) | (rw [if_pos (by decide)]; exact be2_w hb rfl rfl))
                | (rw [fd]; first | (rw [if_neg (by decide)]; done) | (rw [if_pos (by decide)]; exact be2_w hb rfl rfl))
                | (rw [fv, if_pos h3]; exact be4_w hb rfl rfl rfl rfl)
            conv => whnf
            refine And.intro (fun h6 => ?_) (fun h6 => ?_)
            · conv => whnf
              rw [ofR, if_neg (fun g => by simp [okI, g.2.2] at h6)]
              repeat' (first | exact trivial | exact ⟨rfl, rfl⟩ | exact rfl | apply And.intro)
            · conv => whnf
              have h6 : OkP (opOf l) := by
                by_cases h : OkP (opOf l)
                · exact h
                · simp [okI, h] at h6
              have hg : Good l := ⟨(fun e => by rw [e] at h2; simp at h2), by omega, h6⟩
              rw [ofR, if_pos hg, hsz]
              refine ⟨⟨⟨rfl, rfl⟩, ⟨rfl, ?_⟩, ⟨rfl, ?_⟩, ⟨rfl, ?_⟩, ⟨rfl, ?_⟩, ⟨rfl, fn.symm⟩, ⟨rfl, ?_⟩, trivial⟩, ⟨rfl, rfl⟩, ⟨rfl, rfl⟩, trivial⟩
              all_goals first
                | (rw [fa]; first | (rw [if_neg (by decide)]; done) | (rw [if_pos (by decide)]; exact be2_w hb rfl rfl))
                | (rw [fb]; first | (rw [if_neg (by decide)]; done) | (rw [if_pos (by decide)]; exact be2_w hb rfl rfl))
                | (rw [fc]; first | (rw [if_neg (by decide)]; done) | (rw [if_pos (by decide)]; exact be2_w hb rfl rfl))
                | (rw [fd]; first | (rw [if_neg (by decide)]; done) | (rw [if_pos (by decide)]; exact be2_w hb rfl rfl))
                | (rw [fv, if_pos h3]; exact be4_w hb rfl rfl rfl rfl)
    · have h3 : ¬ kdI l = 4 := by simpa using h3
      conv => whnf
      have hsz : sizeI l = 1 + 2 * dpI l := by simp [sizeI, h3]
      refine And.intro (fun h4 => ?_) (fun h4 => ?_)
      · have h4 : dpI l > 4 := by simpa using h4
        conv => whnf
        rw [ofR, if_neg (fun g => by have := g.n4; omega)]
        repeat' (first | exact trivial | exact ⟨rfl, rfl⟩ | exact rfl | apply And.intro)
      · have h4 : dpI l ≤ 4 := by simpa using h4
        conv => whnf
        refine And.intro (fun h5 => ?_) (fun h5 => ?_)
        · have h5 : (l.length : Int) < 1 + 2 * dpI l := by simpa using h5
          conv => whnf
          rw [ofR, if_neg (fun g => by have := g.2.1; omega)]
          repeat' (first | exact trivial | exact ⟨rfl, rfl⟩ | exact rfl | apply And.intro)
        · have h5 : 1 + 2 * dpI l ≤ (l.length : Int) := by simpa using h5
          generalize hD : dpI l = D at h4 h5 hdp hsz
          have fn : (opOf l).p.n = D := hD
          have fa : (opOf l).p.a = if (0 : Int) < D then be2 l 1 else 0 := by rw [← hD]; rfl
          have fb : (opOf l).p.b = if (1 : Int) < D then be2 l 3 else 0 := by rw [← hD]; rfl
          have fc : (opOf l).p.c = if (2 : Int) < D then be2 l 5 else 0 := by rw [← hD]; rfl
          have fd : (opOf l).p.d = if (3 : Int) < D then be2 l 7 else 0 := by rw [← hD]; rfl
          have fv : (opOf l).v = if kdI l = 4 then be4 l (1 + 2 * D.toNat) else 0 := by rw [← hD]; rfl
          have hd : D = 0 ∨ D = 1 ∨ D = 2 ∨ D = 3 ∨ D = 4 := by omega
          rcases hd with rfl | rfl | rfl | rfl | rfl
          all_goals
            conv => whnf
            repeat' (first
              | (refine loopx_rounds tab_ok 6 ?_; conv => whnf)
              | (refine And.intro (fun h => absurd h (by decide)) (fun _ => ?_); conv => whnf)
              | (refine And.intro (fun _ => ?_) (fun h => absurd h (by decide)); conv => whnf)
              | (refine And.intro (fun h => absurd (by simpa using h) h3) (fun _ => ?_); conv => whnf)
              | (refine And.intro (by simp only [IntKind.wrap_i64]; omega) ?_; conv => whnf)
              | (refine drawx_plan tab_ok [1] (.take 0 (.take 1 (.take 2 (.take 3 (.take 4 (.take 5 (.take 6 (.take 7 (.take 8 (.take 9 (.take 10 (.take 11 (.take 12 (.take 13 (.take 14 (.take 15 (.take 16 (.take 17 (.take 18 (.take 19 (.one 20 .done))))))))))))))))))))) (by kernel_rfl) (by kernel_rfl) (by kernel_rfl) ?_; conv => whnf))
            refine callx_says (refCheck_fn (opOf l)) ⟨?_, trivial⟩ rfl trivial ?_
            · refine ⟨⟨rfl, rfl⟩, ⟨rfl, ?_⟩, ⟨rfl, ?_⟩, ⟨rfl, ?_⟩, ⟨rfl, ?_⟩, ⟨rfl, fn.symm⟩, ⟨rfl, ?_⟩, trivial⟩
              all_goals first
                | (rw [fa]; first | (rw [if_neg (by decide)]; done) | (rw [if_pos (by decide)]; exact be2_w hb rfl rfl))
                | (rw [fb]; first | (rw [if_neg (by decide)]; done) | (rw [if_pos (by decide)]; exact be2_w hb rfl rfl))
                | (rw [fc]; first | (rw [if_neg (by decide)]; done) | (rw [if_pos (by decide)]; exact be2_w hb rfl rfl))
                | (rw [fd]; first | (rw [if_neg (by decide)]; done) | (rw [if_pos (by decide)]; exact be2_w hb rfl rfl))
                | (rw [fv, if_neg h3]; done)
            conv => whnf
            refine And.intro (fun h6 => ?_) (fun h6 => ?_)
            · conv => whnf
              rw [ofR, if_neg (fun g => by simp [okI, g.2.2] at h6)]
              repeat' (first | exact trivial | exact ⟨rfl, rfl⟩ | exact rfl | apply And.intro)
            · conv => whnf
              have h6 : OkP (opOf l) := by
                by_cases h : OkP (opOf l)
                · exact h
                · simp [okI, h] at h6
              have hg : Good l := ⟨(fun e => by rw [e] at h2; simp at h2), by omega, h6⟩
              rw [ofR, if_pos hg, hsz]
              refine ⟨⟨⟨rfl, rfl⟩, ⟨rfl, ?_⟩, ⟨rfl, ?_⟩, ⟨rfl, ?_⟩, ⟨rfl, ?_⟩, ⟨rfl, fn.symm⟩, ⟨rfl, ?_⟩, trivial⟩, ⟨rfl, rfl⟩, ⟨rfl, rfl⟩, trivial⟩
              all_goals first
                | (rw [fa]; first | (rw [if_neg (by decide)]; done) | (rw [if_pos (by decide)]; exact be2_w hb rfl rfl))
                | (rw [fb]; first | (rw [if_neg (by decide)]; done) | (rw [if_pos (by decide)]; exact be2_w hb rfl rfl))
                | (rw [fc]; first | (rw [if_neg (by decide)]; done) | (rw [if_pos (by decide)]; exact be2_w hb rfl rfl))
                | (rw [fd]; first | (rw [if_neg (by decide)]; done) | (rw [if_pos (by decide)]; exact be2_w hb rfl rfl))
                | (rw [fv, if_neg h3]; done)
end Go.Proofs.Ytbhmplbckkipjaa
