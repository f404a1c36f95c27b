/- The walk of CrcFixes. -/
import Derived.Test.YtojgdejofpafkaaCrc9
namespace Go.Proofs.Ytojgdejofpafkaa
open Go.RowKit
set_option linter.unusedVariables false

theorem i64_wf {k : Int} (wk : (Lit.int .i64 k).wf = true) : -9223372036854775808 ≤ k ∧ k ≤ 9223372036854775807 := by
  simp only [Lit.wf, Bool.and_eq_true, decide_eq_true_eq] at wk
  obtain ⟨k0, k1⟩ := wk
  have e' : IntKind.max .i64 = 9223372036854775807 := by decide
  have e0 : IntKind.min .i64 = -9223372036854775808 := by decide
  rw [e'] at k1
  rw [e0] at k0
  exact ⟨k0, k1⟩

set_option maxRecDepth 100000 in
set_option maxHeartbeats 4000000 in
theorem fixes_b (w : World) (v : Value) (xs : List UInt8) (hb : BytesAt w v xs) (at_ : Int) (h0 : -9223372036854775808 ≤ at_) (h1 : at_ ≤ 9223372036854775807) (want : BitVec 32) :
    Calls Try.prog 4 #[v, .int .i64 at_, w32 want] w fun e w' => e = .returned (.bool true) ∧ Sat w w' (allro w) := by
  obtain ⟨a, c, rfl, hc1, hc2⟩ := RowAt.len hb
  have hs := sat_allro w
  by_cases hl : 200 < xs.length
  · have d1 : decide (200 < (xs.length : Int)) = true := by simp; omega
    clear h0 h1
    go_enter Try.func4, Try.ntmps4
    go_wp2_with fail
    refine (works_any w w _ hs).mono ?_
    rintro e w1 ⟨rfl, h1⟩
    dsimp only
    go_wp2
    go_ret
    exact ⟨rfl, h1⟩
  · have d1 : decide (200 < (xs.length : Int)) = false := by simp; omega
    have HK := Lib.hid (fun (w' : World) (h' : Sat w w' (allro w)) => hb.below h'.below)
    have cs := run_string_of (P := Try.prog) hb 22 9 5 Try.underlying22 Try.underlying5 Try.underlying9
    have H0 := Lib.hid h0
    have H1 := Lib.hid h1
    clear h0 h1 hb
    go_enter Try.func4, Try.ntmps4
    go_wp2_with (refine wpList_toBytes rfl 9 22 5 _ rfl (str xs) rfl Try.underlying9 Try.underlying22 Try.underlying5 hs ?_ ?_; simp; omega; intro a5 c5 w5 h5)
    clear cs
    have h5' : Sat w w5 (ownT 5 (.slice (some a5) xs.length c5) xs * allro w) := h5
    clear h5
    refine (cfix_any w w5 _ _ xs at_ want h5'.ownT_at h5' (by omega) H0.out H1.out (fun w' h => h.ownT_at)).mono ?_
    rintro e w6 (⟨q0, q1, a6, c6, rfl, h6⟩ | ⟨hno, rfl, h6⟩)
    · dsimp only
      clear h5'
      go_wp2_with fail
      refine (rfix_any w w6 _ _ xs at_ want (HK.out _ h6.right.right) h6 (by omega) H0.out H1.out).mono ?_
      rintro e w7 (⟨_, _, a7, c7, rfl, h7⟩ | ⟨hno, _⟩)
      rotate_left
      · exact absurd ⟨q0, q1⟩ hno
      dsimp only
      have hfl := fixB_len xs at_.toNat want (by omega)
      generalize fixB xs at_.toNat want = X at h6 h7 hfl
      clear h6
      have f1 := run_string_of (P := Try.prog) h7.right.bytes 22 9 5 Try.underlying22 Try.underlying5 Try.underlying9
      have f2 := run_string_of (P := Try.prog) h7.ownT_at 22 9 5 Try.underlying22 Try.underlying5 Try.underlying9
      have HFL := Lib.hid hfl
      clear hfl
      go_wp2_with fail
      clear f1 f2
      have hpos : 0 < X.length := by rw [HFL.out]; omega
      obtain ⟨q9, ⟨_, hX, _⟩ | ⟨g, rfl, h8⟩⟩ := h7.s2.scr_ofRow
      · rw [hX] at hpos; cases hpos
      clear h7 hpos q9
      rw [HFL.out] at h8
      go_loopw [13] (fun t wr => ∃ k : Nat, k ≤ xs.length ∧ t = .int .i64 k ∧ Sat w wr (scr 5 g xs.length * (ownT 5 (.slice a7 xs.length c7) X * (ownT 5 (.slice (some a5) xs.length c5) xs * allro w)))) (fun t _ => xs.length - (intOf t).toNat)
      case atStart => exact ⟨0, Nat.zero_le _, rfl, h8⟩
      case round =>
        clear h8
        obtain ⟨k, hk, rfl, h9⟩ := hrel
        by_cases hlt : k < xs.length
        · obtain ⟨x, k1, g1⟩ := h9.scr_get hlt
          have y1 : (k : Int) < xs.length := by omega
          go_wp2_with fail
          go_roundw
          case rel => exact ⟨k + 1, by omega, by go_num, h9.scr_set _ _⟩
          case measure => simp [intOf]; omega
        · have e : k = xs.length := by omega
          subst e
          have f1 := run_string_of (P := Try.prog) (HK.out _ h9.right.right.right) 22 9 5 Try.underlying22 Try.underlying5 Try.underlying9
          have f2 := run_string_of (P := Try.prog) h9.right.right.ownT_at 22 9 5 Try.underlying22 Try.underlying5 Try.underlying9
          go_wp2_with fail
          clear f1 f2
          refine (works_any w _ _ h9.right.right.right).mono ?_
          rintro e w9 ⟨rfl, h10⟩
          dsimp only
          go_wp2
          go_ret
          exact ⟨rfl, h10⟩
    · dsimp only
      clear h5'
      go_wp2_with fail
      refine (rfix_any w w6 _ _ xs at_ want (HK.out _ h6.right) h6 (by omega) H0.out H1.out).mono ?_
      rintro e w7 (⟨q0, q1, _⟩ | ⟨_, rfl, h7⟩)
      · exact absurd ⟨q0, q1⟩ hno
      dsimp only
      clear h6
      have f1 := run_string_of (P := Try.prog) (HK.out _ h7.right) 22 9 5 Try.underlying22 Try.underlying5 Try.underlying9
      have f2 := run_string_of (P := Try.prog) h7.ownT_at 22 9 5 Try.underlying22 Try.underlying5 Try.underlying9
      have f3 := run_string_of (P := Try.prog) (w := w7) (v := .slice none 0 0) (xs := []) (.inl ⟨rfl, rfl, rfl⟩) 22 9 5 Try.underlying22 Try.underlying5 Try.underlying9
      have HNO := Lib.hid hno
      clear hno
      go_wp2_with fail
      go_loopw [13] (fun t wr => t = .int .i64 0 ∧ wr = w7) (fun t _ => 0)
      case atStart => exact ⟨rfl, rfl⟩
      case round =>
        obtain ⟨rfl, rfl⟩ := hrel
        go_wp2_with fail
        refine (works_any w _ _ h7.right).mono ?_
        rintro e w9 ⟨rfl, h10⟩
        dsimp only
        go_wp2
        go_ret
        exact ⟨rfl, h10⟩

theorem fixes_walk (w : World) (v : Value) (xs : List UInt8) (hb : BytesAt w v xs) (at_ : Int) (wa : (Lit.int .i64 at_).wf = true) (want : Int) (ww : (Lit.int .u32 want).wf = true) :
    Calls Try.prog 4 #[v, .int .i64 at_, .int .u32 want] w fun e w' => e = .returned (.bool true) ∧ Sat w w' (allro w) := by
  obtain ⟨h0, h1⟩ := i64_wf wa
  obtain ⟨want, rfl⟩ := u32_wf ww
  exact fixes_b w v xs hb at_ h0 h1 want
end Go.Proofs.Ytojgdejofpafkaa
