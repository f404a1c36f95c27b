/- The walk of CrcRests. -/
import Derived.Test.YtojgdejofpafkaaCrc8
namespace Go.Proofs.Ytojgdejofpafkaa
open Go.RowKit
set_option linter.unusedVariables false

set_option maxHeartbeats 2000000 in
theorem rests_walk (w : World) (v : Value) (xs : List UInt8) (hb : BytesAt w v xs) :
    Calls Try.prog 3 #[v] w fun e w' => e = .returned (.bool true) ∧ Sat w w' (allro w) := by
  obtain ⟨a, c, rfl, hc1, hc2⟩ := RowAt.len hb
  have hs := sat_allro w
  by_cases hl : 1500 < xs.length
  · have d1 : decide (1500 < (xs.length : Int)) = true := by simp; omega
    go_enter Try.func3, Try.ntmps3
    go_wp2_with fail
    refine (works_any w w _ hs).mono ?_
    rintro e w1 ⟨rfl, h1⟩
    dsimp only
    go_wp2
    go_ret
    exact ⟨rfl, h1⟩
  · have d1 : decide (1500 < (xs.length : Int)) = false := by simp; omega
    have hkeep : ∀ w', Sat w w' (allro w) → BytesAt w' (.slice a xs.length c) xs := fun w' h' => hb.below h'.below
    have HK := Lib.hid hkeep
    have cs := run_string_of (P := Try.prog) hb 22 9 5 Try.underlying22 Try.underlying5 Try.underlying9
    clear hkeep
    go_enter Try.func3, Try.ntmps3
    go_wp2_with (refine wpList_toBytes rfl 9 22 5 _ rfl (str xs) rfl Try.underlying9 Try.underlying22 Try.underlying5 hs ?_ ?_; simp; omega; intro a5 c5 w5 h5)
    clear cs
    rw [show (str xs).data.toList = xs from rfl] at h5
    have hz : (str xs).size = xs.length := rfl
    rw [hz] at h5
    clear hz
    refine (sum_any w5 _ xs h5.ownT_at).mono ?_
    rintro e w6 ⟨rfl, rfl⟩
    dsimp only
    go_wp2_with fail
    refine (refSum_any w w5 _ _ xs (HK.out _ h5.right) (by omega) h5 (fun w' h => HK.out _ h.right)).mono ?_
    rintro e w6 ⟨rfl, h6⟩
    have cs1 := run_string_of (P := Try.prog) h6.ownT_at 22 9 5 Try.underlying22 Try.underlying5 Try.underlying9
    have cs2 := run_string_of (P := Try.prog) (HK.out _ h6.right) 22 9 5 Try.underlying22 Try.underlying5 Try.underlying9
    dsimp only
    go_wp2_with fail
    refine (works_any w w6 _ h6.right).mono ?_
    rintro e w7 ⟨rfl, h7⟩
    dsimp only
    clear cs1 cs2
    go_wp2
    go_ret
    exact ⟨rfl, h7⟩
end Go.Proofs.Ytojgdejofpafkaa
