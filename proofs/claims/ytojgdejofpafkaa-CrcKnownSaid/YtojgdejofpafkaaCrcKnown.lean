/- The walk of CrcKnown. -/
import Derived.Test.YtojgdejofpafkaaCrcFixes
import Derived.Test.YtojgdejofpafkaaCrcRests
import Derived.Test.YtojgdejofpafkaaCrcNoughts
import Derived.Test.YtojgdejofpafkaaCrcTriples
import Derived.Test.YtojgdejofpafkaaCrcForced
import Derived.Test.YtojgdejofpafkaaFields16
namespace Go.Proofs.Ytojgdejofpafkaa
set_option pp.deepTerms true
set_option pp.maxSteps 1000000
open Go.RowKit
set_option linter.unusedVariables false

def textB : List UInt8 := [97, 98, 99, 100, 101, 102, 103, 104, 105, 106, 107]

theorem text_at {u w : World} {F : HProp} {b : Nat} (h : Sat u w (litB b textB (11, 12) * F)) : BytesAt w (.slice (some ⟨b, 0, none⟩) 11 11) textB := litB_at h (by decide)

theorem wf_wrap16 (n : Int) : (Lit.int .u16 (IntKind.u16.wrap n)).wf = true := by
  have e : IntKind.u16.wrap n = n % 65536 := rfl
  have e1 : IntKind.max .u16 = 65535 := by decide
  have e0 : IntKind.min .u16 = 0 := by decide
  simp only [Lit.wf, Bool.and_eq_true, decide_eq_true_eq, e, e0, e1]
  omega
theorem wf_wrap32 (n : Int) : (Lit.int .u32 (IntKind.u32.wrap n)).wf = true := by
  have e : IntKind.u32.wrap n = n % 4294967296 := rfl
  have e1 : IntKind.max .u32 = 4294967295 := by decide
  have e0 : IntKind.min .u32 = 0 := by decide
  simp only [Lit.wf, Bool.and_eq_true, decide_eq_true_eq, e, e0, e1]
  omega
theorem wf_wrap8 (n : Int) : (Lit.int .u8 (IntKind.u8.wrap n)).wf = true := by
  have e : IntKind.u8.wrap n = n % 256 := rfl
  have e1 : IntKind.max .u8 = 255 := by decide
  have e0 : IntKind.min .u8 = 0 := by decide
  simp only [Lit.wf, Bool.and_eq_true, decide_eq_true_eq, e, e0, e1]
  omega
theorem wf_i64 (n : Int) (h0 : -9223372036854775808 ≤ n) (h1 : n ≤ 9223372036854775807) : (Lit.int .i64 n).wf = true := by
  have e1 : IntKind.max .i64 = 9223372036854775807 := by decide
  have e0 : IntKind.min .i64 = -9223372036854775808 := by decide
  simp only [Lit.wf, Bool.and_eq_true, decide_eq_true_eq, e0, e1]
  omega
theorem wf_not32 (n : Int) : (Lit.int .u32 (bits .xor .u32 IntKind.u32.max (IntKind.u32.wrap n))).wf = true := by
  obtain ⟨b, hb⟩ := u32_wf (wf_wrap32 n)
  rw [hb, not32]
  have := (~~~ b).isLt
  have e1 : IntKind.max .u32 = 4294967295 := by decide
  have e0 : IntKind.min .u32 = 0 := by decide
  simp only [Lit.wf, Bool.and_eq_true, decide_eq_true_eq, e0, e1]
  omega

theorem sum0 : sumB [] = 0#32 := by decide +kernel
theorem sum6 : sumB [255, 255, 255, 255, 0, 0] = 4294967295#32 := by decide +kernel
theorem sum4 : sumB [255, 255, 255, 253] = 4135437457#32 := by decide +kernel

def intsA : Array Value := #[.int .i64 (-9223372036854775808), .int .i64 (-1), .int .i64 7, .int .i64 8, .int .i64 9223372036854775807]

theorem intsA_get (j : Nat) (h : j < 5) : ∃ y : Int, intsA[j]? = some (.int .i64 y) ∧ -9223372036854775808 ≤ y ∧ y ≤ 9223372036854775807 := by
  have : j = 0 ∨ j = 1 ∨ j = 2 ∨ j = 3 ∨ j = 4 := by omega
  rcases this with rfl | rfl | rfl | rfl | rfl
  · exact ⟨_, rfl, by decide, by decide⟩
  · exact ⟨_, rfl, by decide, by decide⟩
  · exact ⟨_, rfl, by decide, by decide⟩
  · exact ⟨_, rfl, by decide, by decide⟩
  · exact ⟨_, rfl, by decide, by decide⟩

set_option maxRecDepth 100000 in
set_option maxHeartbeats 8000000 in
theorem cknown_walk (w : World) :
    Calls Try.prog 8 #[] w fun e w' => e = .returned (.bool true) ∧ Sat w w' (allro w) := by
  have hs := sat_allro w
  have cv := Lib.run_convert_bytes_const (P := Try.prog) w 22 5 #[.int .u8 97, .int .u8 98, .int .u8 99, .int .u8 100, .int .u8 101, .int .u8 102, .int .u8 103, .int .u8 104, .int .u8 105, .int .u8 106, .int .u8 107] 11 11 Try.underlying22 Try.underlying5
  have h1 : Sat w _ (litB w.heap.size textB (11, 12) * allro w) := hs.alloc (.cells #[.int .u8 97, .int .u8 98, .int .u8 99, .int .u8 100, .int .u8 101, .int .u8 102, .int .u8 103, .int .u8 104, .int .u8 105, .int .u8 106, .int .u8 107] 5 (11, 12))
  go_enter Try.func8, Try.ntmps8
  go_wp2_with fail
  clear cv
  generalize w.heap.size = g at h1 ⊢
  generalize w.alloc _ = w1 at h1 ⊢
  go_loopw [2] (fun t wr => ∃ i : Nat, i ≤ 32 ∧ t = .int .i64 i ∧ Sat w wr (litB g textB (11, 12) * allro w)) (fun t _ => 32 - (intOf t).toNat)
  case atStart => exact ⟨0, Nat.zero_le _, rfl, h1⟩
  case round =>
    clear h1
    obtain ⟨i, hi, rfl, h2⟩ := hrel
    by_cases hi32 : i < 32
    · have di : decide ((i : Int) < 32) = true := by simp; omega
      have ht12 : (i : Int).tmod 12 = ((i % 12 : Nat) : Int) := by rw [Int.tmod_eq_emod_of_nonneg (by omega)]; omega
      have ht14 : (i : Int).tmod 14 = ((i % 14 : Nat) : Int) := by rw [Int.tmod_eq_emod_of_nonneg (by omega)]; omega
      have ht3 : (i : Int).tmod 3 = ((i % 3 : Nat) : Int) := by rw [Int.tmod_eq_emod_of_nonneg (by omega)]; omega
      have ht9 : (i : Int).tmod 9 = ((i % 9 : Nat) : Int) := by rw [Int.tmod_eq_emod_of_nonneg (by omega)]; omega
      have hb12 : i % 12 ≤ 11 := by omega
      have hb14 : i % 14 ≤ 13 := by omega
      have hb3 : i % 3 ≤ 2 := by omega
      have hb9 : i % 9 ≤ 8 := by omega
      generalize i % 12 = r12 at ht12 hb12
      generalize i % 14 = r14 at ht14 hb14
      generalize i % 3 = r3 at ht3 hb3
      generalize i % 9 = r9 at ht9 hb9
      have hw14 : IntKind.i64.wrap ((r14 : Int) - 2) = (r14 : Int) - 2 := IntWalk.i64_in _ (by omega)
      have hw9 : IntKind.i64.wrap (3 + (r9 : Int)) = 3 + (r9 : Int) := IntWalk.i64_in _ (by omega)
      have z1 : (r12 : Int) ≤ 11 := by omega
      have z2 : (r3 : Int) ≤ 3 + (r9 : Int) := by omega
      have z3 : 3 + (r9 : Int) ≤ 11 := by omega
      have z4 : (0 : Int) ≤ 3 + (r9 : Int) := by omega
      have z5 : (3 + (r9 : Int)).toNat = 3 + r9 := by omega
      have z6 : ¬ (11 = r3) := by omega
      have hS : IntKind.u32.signed = false := rfl
      have h3 := h2.drew
      have HT := Lib.hid (fun (x : World) (h : Sat w x (litB g textB (11, 12) * allro w)) => text_at h)
      clear h2
      go_wp2_with fail
      refine wp_region_seq [(0, true), (1, true), (2, true), (3, true), (4, true), (5, true), (6, true), (7, true), (8, false), (9, true), (10, true), (11, true), (12, true), (13, true), (14, true), (15, true), (16, true), (17, true), (18, true), (19, true), (20, true), (21, false), (22, true), (23, true), (24, true), (25, true), (26, true), (27, true), (28, true), (29, true), (30, true), (31, true), (32, false), (33, true), (34, true), (35, true), (36, true), (37, true), (38, true), (39, true), (40, true), (41, true), (42, true), (43, true), (44, true), (45, true), (46, false), (47, true), (48, true), (49, true), (50, true), (51, true), (52, true), (53, true), (54, true), (55, true), (56, true), (57, true), (58, true), (59, false), (60, true), (61, true)] (fun x => Sat w x (litB g textB (11, 12) * allro w)) (by kernel_rfl) (by kernel_rfl) (fun _ _ _ _ _ h => h) ?_
      simp only [pickOps, Array.getD_eq_getD_getElem?, List.getElem?_toArray, List.getElem?_cons_succ, List.getElem?_cons_zero, Option.getD_some]
      repeat (first
        | (refine wpSeq_run (by rfl) h3 (fun K hK => ⟨?_, ?_, ?_⟩); rotate_left; (· (intro wS hSw; go_simp <;> with_reducible rfl)); simp only [Act.put, List.setIfInBounds_toArray, List.set_cons_zero, List.set_cons_succ]; refine hK _ ?_; clear hK K)
        | (refine wpSeq_skip (by rfl) h3 (fun K hK => ?_); simp only [Act.put, List.setIfInBounds_toArray, List.set_cons_zero, List.set_cons_succ]; refine hK _ ?_; clear hK K))
      refine wpSeq_act (by rfl) (fun K hK => ?_)
      go_simp
      refine (forced_walk _ _ textB (HT.out _ h3) _ (wf_wrap16 _) _ (wf_wrap32 _) _ (wf_wrap32 _)).mono ?_
      rintro e x1 ⟨rfl, h4⟩
      have h5 := h3.through h4
      try dsimp only
      try simp only [Act.put, List.setIfInBounds_toArray, List.set_cons_zero, List.set_cons_succ]
      refine hK _ _ (_) ((fun _ h => h)) h5 ?_
      clear hK K
      clear h3 h4
      repeat (first
        | (refine wpSeq_run (by rfl) h5 (fun K hK => ⟨?_, ?_, ?_⟩); rotate_left; (· (intro wS hSw; go_simp <;> with_reducible rfl)); simp only [Act.put, List.setIfInBounds_toArray, List.set_cons_zero, List.set_cons_succ]; refine hK _ ?_; clear hK K)
        | (refine wpSeq_skip (by rfl) h5 (fun K hK => ?_); simp only [Act.put, List.setIfInBounds_toArray, List.set_cons_zero, List.set_cons_succ]; refine hK _ ?_; clear hK K))
      refine wpSeq_act (by rfl) (fun K hK => ?_)
      go_simp
      refine (fixes_walk _ _ (textB.take r12) (BytesAt.take (HT.out _ h5) r12 hb12) _ (wf_i64 _ (by omega) (by omega)) _ (wf_not32 _)).mono ?_
      rintro e x2 ⟨rfl, h6⟩
      have h7 := h5.through h6
      try dsimp only
      try simp only [Act.put, List.setIfInBounds_toArray, List.set_cons_zero, List.set_cons_succ]
      refine hK _ _ (_) ((fun _ h => h)) h7 ?_
      clear hK K
      clear h5 h6
      repeat (first
        | (refine wpSeq_run (by rfl) h7 (fun K hK => ⟨?_, ?_, ?_⟩); rotate_left; (· (intro wS hSw; go_simp <;> with_reducible rfl)); simp only [Act.put, List.setIfInBounds_toArray, List.set_cons_zero, List.set_cons_succ]; refine hK _ ?_; clear hK K)
        | (refine wpSeq_skip (by rfl) h7 (fun K hK => ?_); simp only [Act.put, List.setIfInBounds_toArray, List.set_cons_zero, List.set_cons_succ]; refine hK _ ?_; clear hK K))
      refine wpSeq_act (by rfl) (fun K hK => ?_)
      go_simp
      have hp3 : BytesAt x2 (.slice (some ⟨g, r3, none⟩) (3 + r9 - r3) (11 - r3)) ((textB.drop r3).take (3 + r9 - r3)) := by
        have := BytesAt.part (HT.out _ h7) r3 (3 + r9 - r3) (11 - r3) (by show _ ≤ 11; omega) (by omega) (by omega) (by unfold maxLen; omega)
        have e : (some ⟨g, 0, none⟩ : Option Addr).map (fun x => x.add r3) = some ⟨g, r3, none⟩ := by simp [addr_add]
        rwa [e] at this
      refine (rests_walk _ _ _ hp3).mono ?_
      rintro e x3 ⟨rfl, h8⟩
      have h9 := h7.through h8
      try dsimp only
      try simp only [Act.put, List.setIfInBounds_toArray, List.set_cons_zero, List.set_cons_succ]
      refine hK _ _ (_) ((fun _ h => h)) h9 ?_
      clear hK K
      clear h7 h8 hp3
      repeat (first
        | (refine wpSeq_run (by rfl) h9 (fun K hK => ⟨?_, ?_, ?_⟩); rotate_left; (· (intro wS hSw; go_simp <;> with_reducible rfl)); simp only [Act.put, List.setIfInBounds_toArray, List.set_cons_zero, List.set_cons_succ]; refine hK _ ?_; clear hK K)
        | (refine wpSeq_skip (by rfl) h9 (fun K hK => ?_); simp only [Act.put, List.setIfInBounds_toArray, List.set_cons_zero, List.set_cons_succ]; refine hK _ ?_; clear hK K))
      refine wpSeq_act (by rfl) (fun K hK => ?_)
      go_simp
      refine (noughts_walk _ _ (textB.take r12) (BytesAt.take (HT.out _ h9) r12 hb12) _ (wf_wrap8 _) _ (wf_wrap8 _)).mono ?_
      rintro e x4 ⟨rfl, h10⟩
      have h11 := h9.through h10
      try dsimp only
      try simp only [Act.put, List.setIfInBounds_toArray, List.set_cons_zero, List.set_cons_succ]
      refine hK _ _ (_) ((fun _ h => h)) h11 ?_
      clear hK K
      clear h9 h10
      repeat (first
        | (refine wpSeq_run (by rfl) h11 (fun K hK => ⟨?_, ?_, ?_⟩); rotate_left; (· (intro wS hSw; go_simp <;> with_reducible rfl)); simp only [Act.put, List.setIfInBounds_toArray, List.set_cons_zero, List.set_cons_succ]; refine hK _ ?_; clear hK K)
        | (refine wpSeq_skip (by rfl) h11 (fun K hK => ?_); simp only [Act.put, List.setIfInBounds_toArray, List.set_cons_zero, List.set_cons_succ]; refine hK _ ?_; clear hK K))
      refine wpSeq_act (by rfl) (fun K hK => ?_)
      go_simp
      have hp4 := BytesAt.tail (HT.out _ h11) r12 hb12
      rw [Nat.zero_add] at hp4
      refine (triples_walk _ _ textB (HT.out _ h11) _ _ hp4 _ (textB.take r12) (BytesAt.take (HT.out _ h11) r12 hb12)).mono ?_
      rintro e x5 ⟨rfl, h12⟩
      have h13 := h11.through h12
      try dsimp only
      try simp only [Act.put, List.setIfInBounds_toArray, List.set_cons_zero, List.set_cons_succ]
      refine hK _ _ (_) ((fun _ h => h)) h13 ?_
      clear hK K
      clear h11 h12 hp4
      repeat (first
        | (refine wpSeq_run (by rfl) h13 (fun K hK => ⟨?_, ?_, ?_⟩); rotate_left; (· (intro wS hSw; go_simp <;> with_reducible rfl)); simp only [Act.put, List.setIfInBounds_toArray, List.set_cons_zero, List.set_cons_succ]; refine hK _ ?_; clear hK K)
        | (refine wpSeq_skip (by rfl) h13 (fun K hK => ?_); simp only [Act.put, List.setIfInBounds_toArray, List.set_cons_zero, List.set_cons_succ]; refine hK _ ?_; clear hK K))
      refine wpSeq_end ?_
      go_wp2_with fail
      go_roundw
      case rel => exact ⟨i + 1, by omega, by go_num, h13⟩
      case measure => simp [intOf]; omega
    · have e32 : i = 32 := by omega
      subst e32
      rw [show ((32 : Nat) : Int) = 32 from rfl]
      have h3 : Sat w _ (own wr.heap.size (.cells intsA 3 (0, 0)) * (litB g textB (11, 12) * allro w)) := h2.alloc (.cells #[.int .i64 (-9223372036854775808), .int .i64 (-1), .int .i64 7, .int .i64 8, .int .i64 9223372036854775807] 3)
      clear h2
      go_wp2_with fail
      generalize wr.heap.size = g5 at h3 ⊢
      generalize wr.alloc _ = w5 at h3 ⊢
      go_loopw [75] (fun t wr => ∃ j : Nat, j ≤ 5 ∧ t = .int .i64 j ∧ Sat w wr (own g5 (.cells intsA 3 (0, 0)) * (litB g textB (11, 12) * allro w))) (fun t _ => 5 - (intOf t).toNat)
      case atStart => exact ⟨0, Nat.zero_le _, rfl, h3⟩
      case round =>
        clear h3
        obtain ⟨j, hj, rfl, h4⟩ := hrel
        by_cases hj5 : j < 5
        · obtain ⟨y, hy, y0, y1⟩ := intsA_get j hj5
          have c0 := h4.cell j
          rw [hy] at c0
          have Y := Lib.hid (wf_i64 y y0 y1)
          have z1 : (j : Int) < 5 := by omega
          clear hy y0 y1
          go_wp2_with fail
          refine (fixes_walk _ _ textB (text_at h4.right) _ Y.out 5 (by decide)).mono ?_
          rintro e w6 ⟨rfl, h5⟩
          have h6 := h4.through h5
          clear h4 h5
          dsimp only
          go_wp2_with fail
          go_roundw
          case rel => exact ⟨j + 1, by omega, by go_num, h6⟩
          case measure => simp [intOf]; omega
        · have e5 : j = 5 := by omega
          subst e5
          have h5 := h4.right.right
          clear h4
          go_wp2_with fail
          refine (sum_any _ _ [] (.inl ⟨rfl, rfl, rfl⟩)).mono ?_
          rintro e w6 ⟨rfl, hw6⟩
          rw [← hw6]
          clear hw6
          rw [sum0]
          dsimp only
          go_wp2_with fail
          have h6 : Sat w _ (litB _ [255, 255, 255, 255, 0, 0] * _) := h5.alloc (.cells #[.int .u8 255, .int .u8 255, .int .u8 255, .int .u8 255, .int .u8 0, .int .u8 0] 5)
          refine (sum_any _ _ [255, 255, 255, 255, 0, 0] (litB_at h6 (by decide))).mono ?_
          rintro e w7 ⟨rfl, hw7⟩
          rw [← hw7]
          clear hw7
          rw [sum6]
          dsimp only
          generalize World.alloc _ _ = w8 at h6 ⊢
          go_wp2_with fail
          have h7 : Sat w _ (litB _ [255, 255, 255, 253] * _) := h6.alloc (.cells #[.int .u8 255, .int .u8 255, .int .u8 255, .int .u8 253] 5)
          refine (sum_any _ _ [255, 255, 255, 253] (litB_at h7 (by decide))).mono ?_
          rintro e w9 ⟨rfl, hw9⟩
          rw [← hw9]
          clear hw9
          rw [sum4]
          dsimp only
          generalize w8.alloc _ = w10 at h7 ⊢
          go_wp2_with fail
          refine (fixes_walk _ _ [] (.inl ⟨rfl, rfl, rfl⟩) 0 (by decide) 0 (by decide)).mono ?_
          rintro e w11 ⟨rfl, h8⟩
          have h9 := h7.through h8
          clear h7 h8
          dsimp only
          go_wp2_with fail
          refine (works_any w _ _ h9.right.right).mono ?_
          rintro e w12 ⟨rfl, h10⟩
          dsimp only
          go_wp2
          go_ret
          exact ⟨rfl, h10⟩
end Go.Proofs.Ytojgdejofpafkaa
