/- The walk of FieldsKnown. -/
import Derived.Test.YtojgdejofpafkaaFields16
import Derived.Lib.SlBytesConst
namespace Go.Proofs.Ytojgdejofpafkaa
open Go.RowKit
set_option linter.unusedVariables false

theorem u64_lo (x : Int) : 0 ≤ IntKind.u64.wrap x := by rw [wrap_u64]; omega
theorem u64_hi (x : Int) : IntKind.u64.wrap x < 18446744073709551616 := by rw [wrap_u64]; omega

theorem abc_at {u w : World} {F : HProp} {b : Nat} (h : Sat u w (own b (.cells #[.int .u8 97, .int .u8 98, .int .u8 99, .int .u8 100, .int .u8 101, .int .u8 102, .int .u8 103, .int .u8 104, .int .u8 105, .int .u8 106] 5 (10, 11)) * F)) : BytesAt w (.slice (some ⟨b, 0, none⟩) 10 10) [97, 98, 99, 100, 101, 102, 103, 104, 105, 106] :=
  BytesAt.mk' rfl (Nat.le_refl _) (by decide) fun j y hy => by
    rw [Nat.zero_add]
    match j, hy with
    | 0, hy => cases hy; exact h.cell 0
    | 1, hy => cases hy; exact h.cell 1
    | 2, hy => cases hy; exact h.cell 2
    | 3, hy => cases hy; exact h.cell 3
    | 4, hy => cases hy; exact h.cell 4
    | 5, hy => cases hy; exact h.cell 5
    | 6, hy => cases hy; exact h.cell 6
    | 7, hy => cases hy; exact h.cell 7
    | 8, hy => cases hy; exact h.cell 8
    | 9, hy => cases hy; exact h.cell 9
    | j + 10, hy => simp at hy

set_option maxRecDepth 100000 in
set_option maxHeartbeats 8000000 in
theorem known_walk (w : World) :
    Calls Try.prog 14 #[] w fun e w' => e = .returned (.bool true) ∧ Sat w w' (allro w) := by
  have h1 := (sat_allro w).alloc (.cells #[.int .u8 97, .int .u8 98, .int .u8 99, .int .u8 100, .int .u8 101, .int .u8 102, .int .u8 103, .int .u8 104, .int .u8 105, .int .u8 106] 5 (10, 11))
  have cv := Lib.run_convert_bytes_const (P := Try.prog) w 22 5 #[.int .u8 97, .int .u8 98, .int .u8 99, .int .u8 100, .int .u8 101, .int .u8 102, .int .u8 103, .int .u8 104, .int .u8 105, .int .u8 106] 10 10 Try.underlying22 Try.underlying5
  go_enter Try.func14, Try.ntmps14
  go_wp2_with fail
  clear cv
  generalize w.heap.size = b1 at h1 ⊢
  generalize w.alloc _ = w1 at h1 ⊢
  go_loopw [2] (fun x wr => ∃ i : Nat, i ≤ 11 ∧ x = .int .i64 i ∧ Sat w wr (own b1 (.cells #[.int .u8 97, .int .u8 98, .int .u8 99, .int .u8 100, .int .u8 101, .int .u8 102, .int .u8 103, .int .u8 104, .int .u8 105, .int .u8 106] 5 (10, 11)) * allro w)) (fun x _ => 11 - (intOf x).toNat)
  case atStart => exact ⟨0, Nat.zero_le _, rfl, h1⟩
  case round =>
    obtain ⟨i, hi, rfl, h2⟩ := hrel
    by_cases hi11 : i < 11
    · have hd11 : decide ((i : Int) < 11) = true := by simp; omega
      go_wp2_with fail
      go_loopw [3] (fun x wr => ∃ k : Nat, k ≤ 5 ∧ x = .int .u8 k ∧ Sat w wr (own b1 (.cells #[.int .u8 97, .int .u8 98, .int .u8 99, .int .u8 100, .int .u8 101, .int .u8 102, .int .u8 103, .int .u8 104, .int .u8 105, .int .u8 106] 5 (10, 11)) * allro w)) (fun x _ => 5 - (intOf x).toNat)
      case atStart => exact ⟨0, Nat.zero_le _, rfl, h2⟩
      case round =>
        clear h2
        obtain ⟨k, hk, rfl, h2⟩ := hrel
        by_cases hk5 : k < 5
        · have hw1 : IntKind.i64.wrap ((i : Int) - 1) = (i : Int) - 1 := IntWalk.i64_in _ (by omega)
          go_wp2_with fail
          obtain ⟨s, hs, hs3⟩ : ∃ s : ByteArray, ({ data := #[120, 121, 122] } : ByteArray).extract 0 (i % 4) = s ∧ s.size ≤ 3 := ⟨_, rfl, by rw [ByteArray.size_extract]; show min (i % 4) 3 - 0 ≤ 3; omega⟩
          rw [hs]
          clear hs hw1
          have h3 := ((h2.alloc (.cells #[.int .u8 k, .int .i64 ((i : Int) - 1), .string s] 40)).right).alloc (.cells #[.int .u8 k, .int .i64 ((i : Int) - 1), .string s, .int .u8 (4 - (k : Int)), .int .i64 i, .string ⟨#[]⟩, .int .u8 0, .int .i64 0, .string ⟨#[]⟩, .int .u8 4, .int .i64 9223372036854775807, .string ⟨#[]⟩, .int .u8 4, .int .i64 0, .string ⟨#[]⟩] 40)
          simp only [World.size_alloc] at h3
          generalize wr.heap.size = b4 at h3 ⊢
          generalize b4 + 1 = b5 at h3 ⊢
          generalize (wr.alloc _).alloc _ = w4 at h3 ⊢
          clear h2
          have HPs := Lib.hid (fun (x : World) (h : Sat w x (own b5 (.cells #[.int .u8 k, .int .i64 ((i : Int) - 1), .string s, .int .u8 (4 - (k : Int)), .int .i64 i, .string ⟨#[]⟩, .int .u8 0, .int .i64 0, .string ⟨#[]⟩, .int .u8 4, .int .i64 9223372036854775807, .string ⟨#[]⟩, .int .u8 4, .int .i64 0, .string ⟨#[]⟩] 40 (0, 0)) * (own b1 (.cells #[.int .u8 97, .int .u8 98, .int .u8 99, .int .u8 100, .int .u8 101, .int .u8 102, .int .u8 103, .int .u8 104, .int .u8 105, .int .u8 106] 5 (10, 11)) * allro w))) => (⟨rfl, Nat.le_refl _, by decide, by
            intro y hy
            simp only [List.mem_cons, List.not_mem_nil, or_false] at hy
            rcases hy with rfl | rfl | rfl | rfl | rfl
            · refine ⟨?_, ?_, ?_, ?_, ?_⟩ <;> dsimp only <;> omega
            · refine ⟨?_, ?_, ?_, ?_, Nat.zero_le _⟩ <;> dsimp only <;> omega
            · exact ⟨by decide, by decide, by decide, by decide, by decide⟩
            · exact ⟨by decide, by decide, by decide, by decide, by decide⟩
            · exact ⟨by decide, by decide, by decide, by decide, by decide⟩, .inr ⟨b5, 0, rfl, fun j y hy => by
            match j, hy with
            | 0, hy => cases hy; exact ⟨h.cell 0, h.cell 1, h.cell 2⟩
            | 1, hy => cases hy; exact ⟨h.cell 3, h.cell 4, h.cell 5⟩
            | 2, hy => cases hy; exact ⟨h.cell 6, h.cell 7, h.cell 8⟩
            | 3, hy => cases hy; exact ⟨h.cell 9, h.cell 10, h.cell 11⟩
            | 4, hy => cases hy; exact ⟨h.cell 12, h.cell 13, h.cell 14⟩
            | j + 5, hy => simp at hy⟩⟩ : PcsAt x (some ⟨b5, 0, none⟩) 5 5 [((k : Int), (i : Int) - 1, s), (4 - (k : Int), (i : Int), ⟨#[]⟩), (0, 0, ⟨#[]⟩), (4, 9223372036854775807, ⟨#[]⟩), (4, 0, ⟨#[]⟩)]))
          have HBi := Lib.hid (fun (x : World) (h : Sat w x (own b5 (.cells #[.int .u8 k, .int .i64 ((i : Int) - 1), .string s, .int .u8 (4 - (k : Int)), .int .i64 i, .string ⟨#[]⟩, .int .u8 0, .int .i64 0, .string ⟨#[]⟩, .int .u8 4, .int .i64 9223372036854775807, .string ⟨#[]⟩, .int .u8 4, .int .i64 0, .string ⟨#[]⟩] 40 (0, 0)) * (own b1 (.cells #[.int .u8 97, .int .u8 98, .int .u8 99, .int .u8 100, .int .u8 101, .int .u8 102, .int .u8 103, .int .u8 104, .int .u8 105, .int .u8 106] 5 (10, 11)) * allro w))) => (abc_at h.right).take i (by simp; omega))
          have z1 : (0 : Int) ≤ (i : Int) := by omega
          have z2 : (i : Int) ≤ 10 := by omega
          have z3 : IntKind.i64.wrap (7 * (i : Int)) = 7 * (i : Int) := IntWalk.i64_in _ (by omega)
          have z4 : IntKind.i64.wrap (6 * (i : Int)) = 6 * (i : Int) := IntWalk.i64_in _ (by omega)
          have z5 : (0 : Int) ≤ 7 * (i : Int) := by omega
          have z6 : (0 : Int) ≤ 6 * (i : Int) := by omega
          have z7 : IntKind.u64.wrap (i : Int) = (i : Int) := by rw [wrap_u64]; omega
          have z8 : IntKind.u64.wrap (k : Int) = (k : Int) := by rw [wrap_u64]; omega
          refine wp_region_seq [(0, true), (1, true), (2, true), (3, true), (4, false), (5, true), (6, true), (7, true), (8, true), (9, true), (10, true), (11, true), (12, false), (13, true), (14, true), (15, true), (16, true), (17, true), (18, true), (19, true), (20, false), (21, true), (22, true), (23, true), (24, true), (25, true), (26, true), (27, true), (28, true), (29, false), (30, true), (31, true), (32, true), (33, true), (34, false), (35, true), (36, true), (37, true), (38, true), (39, true), (40, true), (41, true), (42, false), (43, true), (44, true), (45, true), (46, true), (47, true), (48, true), (49, true), (50, true), (51, true), (52, true), (53, true), (54, true), (55, true), (56, true), (57, true), (58, false), (59, true), (60, true)] (fun x => Sat w x (own b5 (.cells #[.int .u8 k, .int .i64 ((i : Int) - 1), .string s, .int .u8 (4 - (k : Int)), .int .i64 i, .string ⟨#[]⟩, .int .u8 0, .int .i64 0, .string ⟨#[]⟩, .int .u8 4, .int .i64 9223372036854775807, .string ⟨#[]⟩, .int .u8 4, .int .i64 0, .string ⟨#[]⟩] 40 (0, 0)) * (own b1 (.cells #[.int .u8 97, .int .u8 98, .int .u8 99, .int .u8 100, .int .u8 101, .int .u8 102, .int .u8 103, .int .u8 104, .int .u8 105, .int .u8 106] 5 (10, 11)) * allro w))) (by kernel_rfl) (by kernel_rfl) (fun _ _ _ _ _ h => h) ?_
          simp only [pickOps, Array.getD_eq_getD_getElem?, List.getElem?_toArray, List.getElem?_cons_succ, List.getElem?_cons_zero, Option.getD_some]
          have h4 := h3.drew
          clear h3
          repeat (first
            | (refine wpSeq_run (by rfl) h4 (fun K hK => ⟨?_, ?_, ?_⟩); rotate_left; (· (intro wS hSw; go_simp <;> with_reducible rfl)); simp only [Act.put, List.setIfInBounds_toArray, List.set_cons_zero, List.set_cons_succ]; refine hK _ ?_; clear hK K)
            | (refine wpSeq_skip (by rfl) h4 (fun K hK => ?_); simp only [Act.put, List.setIfInBounds_toArray, List.set_cons_zero, List.set_cons_succ]; refine hK _ ?_; clear hK K))
          refine wpSeq_act (by rfl) (fun K hK => ?_)
          go_simp
          refine (reader_walk _ _ _ (HBi.out _ h4) _ _ _ _ (HPs.out _ h4)).mono ?_
          rintro e x4 ⟨rfl, jj⟩
          have h5 := h4.through jj
          clear h4 jj
          try dsimp only
          try simp only [Act.put, List.setIfInBounds_toArray, List.set_cons_zero, List.set_cons_succ]
          refine hK _ _ (_) ((fun _ h => h)) h5 ?_
          clear hK K
          repeat (first
            | (refine wpSeq_run (by rfl) h5 (fun K hK => ⟨?_, ?_, ?_⟩); rotate_left; (· (intro wS hSw; go_simp <;> with_reducible rfl)); simp only [Act.put, List.setIfInBounds_toArray, List.set_cons_zero, List.set_cons_succ]; refine hK _ ?_; clear hK K)
            | (refine wpSeq_skip (by rfl) h5 (fun K hK => ?_); simp only [Act.put, List.setIfInBounds_toArray, List.set_cons_zero, List.set_cons_succ]; refine hK _ ?_; clear hK K))
          refine wpSeq_act (by rfl) (fun K hK => ?_)
          go_simp
          refine (reader_walk _ _ _ (HBi.out _ h5) _ _ _ _ ((HPs.out _ h5).part 1 4 4 (by decide) (by decide) (by decide))).mono ?_
          rintro e x5 ⟨rfl, jj⟩
          have h6 := h5.through jj
          clear h5 jj
          try dsimp only
          try simp only [Act.put, List.setIfInBounds_toArray, List.set_cons_zero, List.set_cons_succ]
          refine hK _ _ (_) ((fun _ h => h)) h6 ?_
          clear hK K
          repeat (first
            | (refine wpSeq_run (by rfl) h6 (fun K hK => ⟨?_, ?_, ?_⟩); rotate_left; (· (intro wS hSw; go_simp <;> with_reducible rfl)); simp only [Act.put, List.setIfInBounds_toArray, List.set_cons_zero, List.set_cons_succ]; refine hK _ ?_; clear hK K)
            | (refine wpSeq_skip (by rfl) h6 (fun K hK => ?_); simp only [Act.put, List.setIfInBounds_toArray, List.set_cons_zero, List.set_cons_succ]; refine hK _ ?_; clear hK K))
          refine wpSeq_act (by rfl) (fun K hK => ?_)
          go_simp
          refine (again_walk _ _ _ (HBi.out _ h6) _ _ _ _ (HPs.out _ h6)).mono ?_
          rintro e x6 ⟨rfl, jj⟩
          have h7 := h6.through jj
          clear h6 jj
          try dsimp only
          try simp only [Act.put, List.setIfInBounds_toArray, List.set_cons_zero, List.set_cons_succ]
          refine hK _ _ (_) ((fun _ h => h)) h7 ?_
          clear hK K
          repeat (first
            | (refine wpSeq_run (by rfl) h7 (fun K hK => ⟨?_, ?_, ?_⟩); rotate_left; (· (intro wS hSw; go_simp <;> with_reducible rfl)); simp only [Act.put, List.setIfInBounds_toArray, List.set_cons_zero, List.set_cons_succ]; refine hK _ ?_; clear hK K)
            | (refine wpSeq_skip (by rfl) h7 (fun K hK => ?_); simp only [Act.put, List.setIfInBounds_toArray, List.set_cons_zero, List.set_cons_succ]; refine hK _ ?_; clear hK K))
          refine wpSeq_act (by rfl) (fun K hK => ?_)
          go_simp
          refine (again_walk _ _ _ (HBi.out _ h7) _ _ _ _ ((HPs.out _ h7).part 1 2 4 (by decide) (by decide) (by decide))).mono ?_
          rintro e x7 ⟨rfl, jj⟩
          have h8 := h7.through jj
          clear h7 jj
          try dsimp only
          try simp only [Act.put, List.setIfInBounds_toArray, List.set_cons_zero, List.set_cons_succ]
          refine hK _ _ (_) ((fun _ h => h)) h8 ?_
          clear hK K
          repeat (first
            | (refine wpSeq_run (by rfl) h8 (fun K hK => ⟨?_, ?_, ?_⟩); rotate_left; (· (intro wS hSw; go_simp <;> with_reducible rfl)); simp only [Act.put, List.setIfInBounds_toArray, List.set_cons_zero, List.set_cons_succ]; refine hK _ ?_; clear hK K)
            | (refine wpSeq_skip (by rfl) h8 (fun K hK => ?_); simp only [Act.put, List.setIfInBounds_toArray, List.set_cons_zero, List.set_cons_succ]; refine hK _ ?_; clear hK K))
          refine wpSeq_act (by rfl) (fun K hK => ?_)
          go_simp
          refine (writer_walk _ _ _ _ _ (HPs.out _ h8)).mono ?_
          rintro e x8 ⟨rfl, jj⟩
          have h9 := h8.through jj
          clear h8 jj
          try dsimp only
          try simp only [Act.put, List.setIfInBounds_toArray, List.set_cons_zero, List.set_cons_succ]
          refine hK _ _ (_) ((fun _ h => h)) h9 ?_
          clear hK K
          repeat (first
            | (refine wpSeq_run (by rfl) h9 (fun K hK => ⟨?_, ?_, ?_⟩); rotate_left; (· (intro wS hSw; go_simp <;> with_reducible rfl)); simp only [Act.put, List.setIfInBounds_toArray, List.set_cons_zero, List.set_cons_succ]; refine hK _ ?_; clear hK K)
            | (refine wpSeq_skip (by rfl) h9 (fun K hK => ?_); simp only [Act.put, List.setIfInBounds_toArray, List.set_cons_zero, List.set_cons_succ]; refine hK _ ?_; clear hK K))
          refine wpSeq_act (by rfl) (fun K hK => ?_)
          go_simp
          refine (there_walk _ _ _ _ _ (HPs.out _ h9) _ _ (HBi.out _ h9)).mono ?_
          rintro e x9 ⟨rfl, jj⟩
          have h10 := h9.through jj
          clear h9 jj
          try dsimp only
          try simp only [Act.put, List.setIfInBounds_toArray, List.set_cons_zero, List.set_cons_succ]
          refine hK _ _ (_) ((fun _ h => h)) h10 ?_
          clear hK K
          repeat (first
            | (refine wpSeq_run (by rfl) h10 (fun K hK => ⟨?_, ?_, ?_⟩); rotate_left; (· (intro wS hSw; go_simp <;> with_reducible rfl)); simp only [Act.put, List.setIfInBounds_toArray, List.set_cons_zero, List.set_cons_succ]; refine hK _ ?_; clear hK K)
            | (refine wpSeq_skip (by rfl) h10 (fun K hK => ?_); simp only [Act.put, List.setIfInBounds_toArray, List.set_cons_zero, List.set_cons_succ]; refine hK _ ?_; clear hK K))
          refine wpSeq_act (by rfl) (fun K hK => ?_)
          go_simp
          refine (order_walk _ _ _ _ (u64_lo _) (u64_hi _) (u64_lo _) (u64_hi _) (by omega) (by omega)).mono ?_
          rintro e x10 ⟨rfl, jj⟩
          have h11 := h10.through jj
          clear h10 jj
          try dsimp only
          try simp only [Act.put, List.setIfInBounds_toArray, List.set_cons_zero, List.set_cons_succ]
          refine hK _ _ (_) ((fun _ h => h)) h11 ?_
          clear hK K
          repeat (first
            | (refine wpSeq_run (by rfl) h11 (fun K hK => ⟨?_, ?_, ?_⟩); rotate_left; (· (intro wS hSw; go_simp <;> with_reducible rfl)); simp only [Act.put, List.setIfInBounds_toArray, List.set_cons_zero, List.set_cons_succ]; refine hK _ ?_; clear hK K)
            | (refine wpSeq_skip (by rfl) h11 (fun K hK => ?_); simp only [Act.put, List.setIfInBounds_toArray, List.set_cons_zero, List.set_cons_succ]; refine hK _ ?_; clear hK K))
          refine wpSeq_end ?_
          have h12 := h11.right
          clear z1 z2 z3 z4 z5 z6 z7 z8 h11 HPs HBi
          go_wp2_with fail
          go_roundw
          case rel => exact ⟨k + 1, hk5, by go_num, h12⟩
          case measure => simp [intOf]; omega
        · go_wp2_with fail
          go_roundw
          case rel => exact ⟨i + 1, hi11, by go_num, h2⟩
          case measure => simp [intOf]; omega
    · go_wp2_with fail
      refine (byte_nil w _ _ _ h2).mono ?_
      rintro e x1 ⟨rfl, h3⟩
      dsimp only
      clear h2
      go_wp2_with fail
      refine (short_nil w _ _ _ h3).mono ?_
      rintro e x2 ⟨rfl, h4⟩
      dsimp only
      clear h3
      go_wp2_with fail
      refine (word_nil w _ _ _ h4).mono ?_
      rintro e x3 ⟨rfl, h5⟩
      dsimp only
      clear h4
      go_wp2_with fail
      refine (long_nil w _ _ _ h5).mono ?_
      rintro e x4 ⟨rfl, h6⟩
      dsimp only
      clear h5
      go_wp2_with (first
        | (go_at_call 24; refine (out_nil _).mono ?_; rintro e w' ⟨rfl, rfl⟩)
        | (go_at_call 37; refine (raw_nil _ _).mono ?_; rintro e w' ⟨rfl, rfl⟩)
        | (go_at_call 36; refine (bad_nil _).mono ?_; rintro e w' ⟨rfl, rfl⟩)
        | (go_at_call 34; refine (left_nil _).mono ?_; rintro e w' ⟨rfl, rfl⟩)
        | (go_at_call 39; refine (rbyte_nil _).mono ?_; rintro e w' ⟨rfl, rfl⟩)
        | (go_at_call 40; refine (rshort_nil _).mono ?_; rintro e w' ⟨rfl, rfl⟩)
        | (go_at_call 41; refine (rword_nil _).mono ?_; rintro e w' ⟨rfl, rfl⟩)
        | (go_at_call 42; refine (rlong_nil _).mono ?_; rintro e w' ⟨rfl, rfl⟩)
        | (go_at_call 38; refine (rraw_nil _ _).mono ?_; rintro e w' ⟨rfl, rfl⟩))
      have h7 := h6.alloc (.cells #[.int .u8 4, .int .i64 (-9223372036854775808), .string ⟨#[]⟩] 40)
      generalize x4.heap.size = b9 at h7 ⊢
      generalize x4.alloc _ = x5 at h7 ⊢
      clear h6
      refine (reader_walk _ _ [97, 98, 99, 100, 101, 102, 103, 104, 105, 106] (abc_at h7.right) _ _ _ [(4, -9223372036854775808, ⟨#[]⟩)] ⟨rfl, Nat.le_refl _, by decide, by
        intro y hy
        simp only [List.mem_cons, List.not_mem_nil, or_false] at hy
        subst hy
        exact ⟨by decide, by decide, by decide, by decide, by decide⟩, .inr ⟨b9, 0, rfl, fun j y hy => by
        match j, hy with
        | 0, hy => cases hy; exact ⟨h7.cell 0, h7.cell 1, h7.cell 2⟩
        | j + 1, hy => simp at hy⟩⟩).mono ?_
      rintro e x6 ⟨rfl, jj⟩
      have h8 := h7.through jj
      dsimp only
      clear h7 jj
      go_wp2_with fail
      refine (there_walk _ none 0 0 [] ⟨rfl, Nat.le_refl _, by decide, by simp, .inl rfl⟩ (.slice none 0 0) [] (.inl ⟨rfl, rfl, rfl⟩)).mono ?_
      rintro e x7 ⟨rfl, jj⟩
      have h9 := h8.through jj
      dsimp only
      clear h8 jj
      go_wp2_with fail
      refine (works3 w _ _ h9).mono ?_
      rintro e x8 ⟨rfl, h10⟩
      dsimp only
      go_wp2_with fail
      go_ret
      exact ⟨rfl, h10.right.right⟩
end Go.Proofs.Ytojgdejofpafkaa
