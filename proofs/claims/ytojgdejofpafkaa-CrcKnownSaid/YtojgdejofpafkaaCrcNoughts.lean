/- The walk of CrcNoughts. -/
import Derived.Test.YtojgdejofpafkaaCrc7
import Derived.Test.YtojgdejofpafkaaSepZero
namespace Go.Proofs.Ytojgdejofpafkaa
open Go.RowKit
set_option linter.unusedVariables false

theorem behind_noughts : ∀ m, behindB 0#32 (List.replicate m 0) = 0#32
  | 0 => rfl
  | m + 1 => by
    show behindB (stepB 0#32 0) (List.replicate m 0) = _
    have e : stepB 0#32 0 = 0#32 := by decide +kernel
    rw [e]
    exact behind_noughts m

theorem sum_noughts (m : Nat) (b : List UInt8) : sumB ([255, 255, 255, 255] ++ List.replicate m 0 ++ b) = ~~~ behindB 0#32 b := by
  unfold sumB
  rw [behindB_append, behindB_append]
  have e : behindB (~~~ 0#32) [255, 255, 255, 255] = 0#32 := by decide +kernel
  rw [e, behind_noughts]

theorem u8_wf {k : Int} (wk : (Lit.int .u8 k).wf = true) : ∃ n : Nat, k = n ∧ n < 256 := by
  simp only [Lit.wf, Bool.and_eq_true, decide_eq_true_eq] at wk
  obtain ⟨k0, k1⟩ := wk
  have e' : IntKind.max .u8 = 255 := by decide
  have e0 : IntKind.min .u8 = 0 := by decide
  rw [e'] at k1
  rw [e0] at k0
  exact ⟨k.toNat, by omega, by omega⟩

set_option maxHeartbeats 2000000 in
theorem noughts_walk (w : World) (v : Value) (xs : List UInt8) (hb : BytesAt w v xs) (m : Int) (wm : (Lit.int .u8 m).wf = true) (n : Int) (wn : (Lit.int .u8 n).wf = true) :
    Calls Try.prog 7 #[v, .int .u8 m, .int .u8 n] w fun e w' => e = .returned (.bool true) ∧ Sat w w' (allro w) := by
  obtain ⟨m, rfl, hm⟩ := u8_wf wm
  obtain ⟨n, rfl, hn⟩ := u8_wf wn
  obtain ⟨a, c, rfl, hc1, hc2⟩ := RowAt.len hb
  have hs := sat_allro w
  by_cases hl : 2000 < xs.length
  · have d1 : decide (2000 < (xs.length : Int)) = true := by simp; omega
    go_enter Try.func7, Try.ntmps7
    go_wp2_with fail
    refine (works_any w w _ hs).mono ?_
    rintro e w1 ⟨rfl, h1⟩
    dsimp only
    go_wp2
    go_ret
    exact ⟨rfl, h1⟩
  · have d1 : decide (2000 < (xs.length : Int)) = false := by simp; omega
    have hkeep : ∀ w', Sat w w' (allro w) → BytesAt w' (.slice a xs.length c) xs := fun w' h' => hb.below h'.below
    obtain ⟨i0, hi, hz0, hz1, hz2⟩ := info_parts info_u8
    have hzc : (Value.int .u8 0).cells = #[.int .u8 0] := rfl
    have h1 : Sat w _ (litB w.heap.size [255, 255, 255, 255] * allro w) := hs.alloc (.cells #[.int .u8 255, .int .u8 255, .int .u8 255, .int .u8 255] 5)
    have hn0 := Sat.row_nil (e := 5) (size := 1) h1
    have HK := Lib.hid hkeep
    clear hkeep
    go_enter Try.func7, Try.ntmps7
    go_wp2_with (first
      | (at_builtin; refine wpList_append_sl rfl _ _ 22 rfl i0 (.int .u8 0) Try.underlying22 hi hz0 hz1 hz2 rfl (by decide) rfl rfl hn0 (litB_at h1 (by decide)) (by simp) (B_one _) (by simp) ?_; intro a3 c3 w3 h4 hx; clear hx)
      | (at_builtin; refine wpList_append_zeros rfl _ _ 22 5 rfl i0 (.int .u8 0) .u8 .u8 Try.underlying22 Try.underlying5 hi hz0 hz1 rfl (by decide) (by intro y hy; simp [Value.cells] at hy; subst hy; rfl) (by omega) m rfl rfl h4 (by rw [hz2]; simp; omega) ?_; intro a4 c4 w4 h5)
      | (at_builtin; refine wpList_append_sl rfl _ _ 22 rfl i0 (.int .u8 0) Try.underlying22 hi hz0 hz1 hz2 rfl (by decide) rfl rfl h5 (HK.out _ h5.right.right) (by simp) (B_one _) (by simp; omega) ?_; intro a5 c5 w5 h6 hx; clear hx)
      | (at_builtin; refine wpList_append_sl rfl _ _ 22 rfl i0 (.int .u8 0) Try.underlying22 hi hz0 hz1 hz2 rfl (by decide) rfl rfl (Sat.row_nil (e := 5) (size := 1) h6) (litB_at h6.right (by decide)) (by simp) (B_one _) (by simp) ?_; intro a6 c6 w6 h7 hx; clear hx)
      | (at_builtin; refine wpList_append_zeros rfl _ _ 22 5 rfl i0 (.int .u8 0) .u8 .u8 Try.underlying22 Try.underlying5 hi hz0 hz1 rfl (by decide) (by intro y hy; simp [Value.cells] at hy; subst hy; rfl) (by omega) n rfl rfl h7 (by rw [hz2]; simp; omega) ?_; intro a7 c7 w7 h8)
      | (at_builtin; refine wpList_append_sl rfl _ _ 22 rfl i0 (.int .u8 0) Try.underlying22 hi hz0 hz1 hz2 rfl (by decide) rfl rfl h8 (HK.out _ h8.right.right.right) (by simp) (B_one _) (by simp; omega) ?_; intro a8 c8 w8 h9 hx; clear hx)
      | fail)
    have hrow : ∀ (k : Nat) (x : World) (b : Value), RowAt x b ((([255, 255, 255, 255] : List UInt8).length + k) + xs.length) (([255, 255, 255, 255] : List UInt8).map B ++ noughts (.int .u8 0) k ++ xs.map B) → BytesAt x b ([255, 255, 255, 255] ++ List.replicate k 0 ++ xs) := by
      intro k x b hr
      unfold BytesAt
      have e : ([255, 255, 255, 255] : List UInt8).map B ++ noughts (.int .u8 0) k ++ xs.map B = ([255, 255, 255, 255] ++ List.replicate k 0 ++ xs).map B := by
        rw [noughts_eq hzc, List.map_append, List.map_append, List.map_replicate]
        rfl
      rw [e] at hr
      simpa [Nat.add_comm, Nat.add_left_comm, Nat.add_assoc] using hr
    refine (sum_any w8 _ ([255, 255, 255, 255] ++ List.replicate m 0 ++ xs) (hrow m w8 _ h9.s2.row_at)).mono ?_
    rintro e w9 ⟨rfl, rfl⟩
    rw [sum_noughts]
    dsimp only
    go_wp2_with fail
    refine (sum_any w8 _ ([255, 255, 255, 255] ++ List.replicate n 0 ++ xs) (hrow n w8 _ h9.row_at)).mono ?_
    rintro e w9 ⟨rfl, rfl⟩
    rw [sum_noughts]
    dsimp only
    go_wp2_with fail
    refine (works_any w w8 _ h9.right.right.right).mono ?_
    rintro e w9 ⟨rfl, h10⟩
    dsimp only
    go_wp2
    go_ret
    exact ⟨rfl, h10⟩
end Go.Proofs.Ytojgdejofpafkaa
