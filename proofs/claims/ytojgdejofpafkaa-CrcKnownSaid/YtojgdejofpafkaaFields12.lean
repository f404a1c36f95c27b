/- The walk of FieldsOrder. -/
import Derived.Test.YtojgdejofpafkaaFields11
import Derived.Test.YtojgdejofpafkaaRegion
import Derived.Deep.DeepCutAuto
namespace Go.Proofs.Ytojgdejofpafkaa
open Go.RowKit
set_option linter.unusedVariables false

/-- Of rows of as many bytes the greater one is the one of the greater number. -/
theorem bytesLess_num : ∀ (l m : List UInt8), l.length = m.length → Op.bytesLess l m = decide (num l < num m) := by
  intro l
  induction l with
  | nil =>
    intro m h
    cases m with
    | nil => rfl
    | cons _ _ => simp at h
  | cons a x ih =>
    intro m h
    cases m with
    | nil => simp at h
    | cons b y =>
      have hl : x.length = y.length := by simpa using h
      have e1 : num (a :: x) = a.toNat * 256 ^ x.length + num x := by
        have := num_append [a] x
        simpa [num] using this
      have e2 : num (b :: y) = b.toNat * 256 ^ y.length + num y := by
        have := num_append [b] y
        simpa [num] using this
      have hx := num_lt x
      have hy := num_lt y
      rw [e1, e2, Op.bytesLess, ih y hl, hl]
      rw [hl] at hx
      generalize 256 ^ y.length = M at hx hy ⊢
      rw [Bool.eq_iff_iff]
      simp only [Bool.or_eq_true, Bool.and_eq_true, decide_eq_true_eq, beq_iff_eq, UInt8.lt_iff_toNat_lt, ← UInt8.toNat_inj]
      have k1 : a.toNat < b.toNat → a.toNat * M + num x < b.toNat * M + num y := by
        intro hab
        have : (a.toNat + 1) * M ≤ b.toNat * M := Nat.mul_le_mul_right _ hab
        rw [Nat.add_mul] at this
        omega
      have k2 : b.toNat < a.toNat → b.toNat * M + num y < a.toNat * M + num x := by
        intro hab
        have : (b.toNat + 1) * M ≤ a.toNat * M := Nat.mul_le_mul_right _ hab
        rw [Nat.add_mul] at this
        omega
      constructor
      · rintro (h1 | ⟨h1, h2⟩)
        · exact k1 h1
        · rw [h1]; omega
      · intro h3
        rcases Nat.lt_trichotomy a.toNat b.toNat with h1 | h1 | h1
        · exact .inl h1
        · exact .inr ⟨h1, by rw [h1] at h3; omega⟩
        · have := k2 h1
          omega

theorem number_any (w : World) (v : Value) (xs : List UInt8) (hb : BytesAt w v xs) (hl : xs.length = 1 ∨ xs.length = 2 ∨ xs.length = 4 ∨ xs.length = 8) :
    Calls Try.prog 29 #[v] w fun e w' => e = .returned (.int .u64 (num xs : Nat)) ∧ ∃ m, w' = w.drewN m := by
  rcases hl with h | h | h | h
  · exact number1 w v xs hb h
  · exact number2 w v xs hb h
  · exact number4 w v xs hb h
  · exact number8 w v xs hb h

theorem wrap64_U (a : Int) (h0 : 0 ≤ a) (h1 : a < 18446744073709551616) : U (wrap64 a) = a.toNat := by
  unfold U wrap64
  omega

theorem halves (a : Nat) : be 8 a = be 4 (a / 4294967296) ++ be 2 (a / 65536 % 65536) ++ be 1 (a / 256 % 256) ++ be 1 (a % 256) := by
  have e1 := be_add 4 4 a
  have e2 := be_add 2 2 a
  have e3 := be_add 1 1 a
  have m2 := be_mod 2 (a / 65536)
  have m1 := be_mod 1 (a / 256)
  have m0 := be_mod 1 a
  rw [show (256 : Nat) ^ 4 = 4294967296 from rfl] at e1
  rw [show (256 : Nat) ^ 2 = 65536 from rfl] at e2 m2
  rw [show (256 : Nat) ^ 1 = 256 from rfl] at e3 m1 m0
  rw [m2, m1, m0]
  show be (4 + 4) a = _
  rw [e1]
  show be 4 (a / 4294967296) ++ be (2 + 2) a = _
  rw [e2]
  show be 4 (a / 4294967296) ++ (be 2 (a / 65536) ++ be (1 + 1) a) = _
  rw [e3]
  simp

theorem wd4 (k : Int) : wd (k % 4) ≠ 0 := by
  unfold wd
  repeat' split
  all_goals omega

theorem wd4b (k : Int) : wd (k % 4) = 1 ∨ wd (k % 4) = 2 ∨ wd (k % 4) = 4 ∨ wd (k % 4) = 8 := by
  have := wd4 k
  unfold wd at *
  repeat' split at this
  all_goals simp_all

theorem pbw_len (k n : Int) (s : ByteArray) (h : wd k ≠ 0) : (pb k n s).length = wd k := by
  unfold pb
  rw [if_neg h, be_length]

set_option maxHeartbeats 2000000 in
theorem order_walk (w : World) (a b k : Int) (a0 : 0 ≤ a) (a1 : a < 18446744073709551616) (b0 : 0 ≤ b) (b1 : b < 18446744073709551616) (k0 : 0 ≤ k) (k1 : k < 256) :
    Calls Try.prog 10 #[.int .u64 a, .int .u64 b, .int .u8 k] w fun e w' => e = .returned (.bool true) ∧ Sat w w' (allro w) := by
  have hs := sat_allro w
  have hk : 0 ≤ k % 4 ∧ k % 4 < 256 := by omega
  go_enter Try.func10, Try.ntmps10
  go_wp2_with fail
  have h1 := hs.alloc (.cells #[.int .u8 (k % 4), .int .i64 (wrap64 a), .string ⟨#[]⟩] 40)
  have h2 := h1.alloc (.cells #[.int .u8 (k % 4), .int .i64 (wrap64 b), .string ⟨#[]⟩] 40)
  have h3 := isW_new (isW_new (isW_new (isW_new h2)))
  simp only [World.size_alloc] at h3
  clear h1 h2 hs
  have hp8 : (pb (k % 4) (wrap64 a) ⟨#[]⟩).length ≤ 8 := pb_len _ _ _
  have hq8 : (pb (k % 4) (wrap64 b) ⟨#[]⟩).length ≤ 8 := pb_len _ _ _
  refine (put_any w _ _ _ [] (k % 4) (wrap64 a) ⟨#[]⟩ hk.1 hk.2 h3.s4 (by decide)).mono ?_
  rintro e w1 ⟨rfl, h4⟩
  dsimp only
  have y0 := h4.s5.cell 0
  have y1 := h4.s5.cell 1
  have y2 := h4.s5.cell 2
  go_wp2_with fail
  refine (put_any w _ _ _ [] (k % 4) (wrap64 b) ⟨#[]⟩ hk.1 hk.2 h4.s4 (by decide)).mono ?_
  rintro e w2 ⟨rfl, h5⟩
  dsimp only
  clear y0 y1 y2 h3 h4
  go_wp2_with fail
  refine (long_any w _ _ _ [] a a0 a1 h5.s4 (by decide)).mono ?_
  rintro e w3 ⟨rfl, h6⟩
  dsimp only
  clear h5
  go_wp2_with fail
  refine (word_any w _ _ _ [] _ (by omega) (by omega) h6.s4 (by decide)).mono ?_
  rintro e w4 ⟨rfl, h7⟩
  dsimp only
  clear h6
  go_wp2_with fail
  rw [wrap_u16]
  refine (short_any w _ _ _ _ _ (by omega) (by omega) h7 (by simp)).mono ?_
  rintro e w5 ⟨rfl, h8⟩
  dsimp only
  clear h7
  go_wp2_with fail
  refine (byte_any w _ _ _ _ _ (by omega) (by omega) h8 (by simp)).mono ?_
  rintro e w6 ⟨rfl, h9⟩
  dsimp only
  clear h8
  go_wp2_with fail
  refine (byte_any w _ _ _ _ _ (by omega) (by omega) h9 (by simp)).mono ?_
  rintro e w7 ⟨rfl, h10⟩
  dsimp only
  clear h9
  have hH : [] ++ be 4 (a / 4294967296).toNat ++ be 2 (a / 65536 % 65536).toNat ++ be 1 (a / 256 % 256).toNat ++ be 1 (a % 256).toNat = be 8 a.toNat := by
    obtain ⟨a, rfl⟩ := Int.eq_ofNat_of_zero_le a0
    rw [Int.toNat_natCast, halves a]
    simp only [List.nil_append]
    congr 3
  rw [hH] at h10
  clear hH
  simp only [List.nil_append] at h10
  generalize hA : pb (k % 4) (wrap64 a) ⟨#[]⟩ = A at hp8 h10
  generalize hB : pb (k % 4) (wrap64 b) ⟨#[]⟩ = Bq at hq8 h10
  generalize hE : be 8 a.toNat = E8 at h10
  have le8 : E8.length ≤ 8 := by rw [← hE, be_length]; exact Nat.le_refl _
  have HA := Lib.hid hA
  have HB := Lib.hid hB
  clear hA hB hE
  generalize w.heap.size + 1 + 1 + 1 + 1 + 1 = b12 at h10 ⊢
  generalize w.heap.size + 1 + 1 + 1 + 1 = b11 at h10 ⊢
  generalize w.heap.size + 1 + 1 + 1 = b10 at h10 ⊢
  generalize w.heap.size + 1 + 1 = b9 at h10 ⊢
  generalize w.heap.size + 1 = b8 at h10 ⊢
  generalize w.heap.size = b7 at h10 ⊢
  go_upto_region 10 with fail
  go_cut [13, 14] (fun p q wx => p = .string (str A) ∧ q = .string (str Bq) ∧ Sat w wx (isW b12 E8 * (isW b11 E8 * (own b7 (.cells #[.int .u8 (k % 4), .int .i64 (wrap64 a), .string ⟨#[]⟩] 40 (0, 0)) * allro w))))
  case first =>
    have C1 := Lib.hid (out_any w w7.drew _ b9 A h10.s4.drew (by omega))
    go_region_with (first
      | (go_at_call_of 24 b9; go_must (refine C1.out.mono ?_; rintro e w8 ⟨a8, c8, rfl, h11⟩; have C2 := Lib.hid (out_any w w8 _ b10 Bq h11.s5 (by omega)); have cv1 := run_string_of (P := Try.prog) (h11.bytes) 22 9 5 Try.underlying22 Try.underlying5 Try.underlying9))
      | (go_at_call_of 24 b10; refine C2.out.mono ?_; rintro e w9 ⟨a9, c9, rfl, h12⟩; have cv2 := run_string_of (P := Try.prog) (h12.bytes) 22 9 5 Try.underlying22 Try.underlying5 Try.underlying9; have cv3 := run_string_of (P := Try.prog) (h12.s3.bytes) 22 9 5 Try.underlying22 Try.underlying5 Try.underlying9))
    all_goals go_wp2_with fail
    all_goals go_meet
    all_goals exact ⟨rfl, rfl, h12.right.right.right.right.s3.right⟩
  case rest =>
    obtain ⟨rfl, rfl, h11⟩ := hcut
    clear h10
    have hAl : A.length = wd (k % 4) := by rw [← HA.out]; exact pbw_len _ _ _ (wd4 k)
    have hBl : Bq.length = wd (k % 4) := by rw [← HB.out]; exact pbw_len _ _ _ (wd4 k)
    have hw4 := wd4b k
    have hA4 : A.length = 1 ∨ A.length = 2 ∨ A.length = 4 ∨ A.length = 8 := by rw [hAl]; exact hw4
    have hB4 : Bq.length = 1 ∨ Bq.length = 2 ∨ Bq.length = 4 ∨ Bq.length = 8 := by rw [hBl]; exact hw4
    have hlt : Op.bytesLess (str A).toList (str Bq).toList = decide (num A < num Bq) := by rw [str_toList, str_toList]; exact bytesLess_num A Bq (hAl.trans hBl.symm)
    have HLA := Lib.hid hAl
    have HA4 := Lib.hid hA4
    have HB4 := Lib.hid hB4
    have HLT := Lib.hid hlt
    clear hAl hBl hw4 hA4 hB4 hlt
    go_wp2_with (refine wpList_toBytes rfl 9 22 5 _ rfl (str A) rfl Try.underlying9 Try.underlying22 Try.underlying5 h11 ?_ ?_; simp; omega; intro a' c' wx h12)
    refine (number_any wx _ A h12.ownT_at HA4.out).mono ?_
    rintro e w8 ⟨rfl, m, rfl⟩
    have h13 := (h12.right).drewN m
    clear h12
    generalize wx.drewN m = w8 at h13 ⊢
    dsimp only
    go_wp2_with (refine wpList_toBytes rfl 9 22 5 _ rfl (str Bq) rfl Try.underlying9 Try.underlying22 Try.underlying5 h13 ?_ ?_; simp; omega; intro a' c' wy h14)
    refine (number_any wy _ Bq h14.ownT_at HB4.out).mono ?_
    rintro e w9 ⟨rfl, m, rfl⟩
    have h15 := (h14.right).drewN m
    clear h14 h13
    generalize wy.drewN m = w9 at h15 ⊢
    dsimp only
    go_upto_region 12 with fail
    have hlt := HLT.out
    have hlen : ((A.length : Int) == (wd (k % 4) : Int)) = true := by rw [HLA.out]; simp
    clear HLT HLA HA4 HB4 HA HB hp8 hq8 h11
    refine wp_region_seq [(0, true), (1, true), (2, true), (3, true), (4, true), (5, true), (6, true), (7, true), (8, true), (9, false), (10, true), (11, true), (12, true), (13, false), (14, true), (15, false), (16, true), (17, true), (18, true), (19, true), (20, false), (21, true), (22, true)] (fun x => Sat w x (isW b12 E8 * (isW b11 E8 * (own b7 (.cells #[.int .u8 (k % 4), .int .i64 (wrap64 a), .string ⟨#[]⟩] 40 (0, 0)) * allro w)))) (by kernel_rfl) (by kernel_rfl) (fun _ _ _ _ _ h => h) ?_
    simp only [pickOps, Array.getD_eq_getD_getElem?, List.getElem?_toArray, List.getElem?_cons_succ, List.getElem?_cons_zero, Option.getD_some]
    have h16 := h15.drew
    have hbb : ∀ b : Bool, (b == b) = true := fun b => by simp
    repeat (first
      | (refine wpSeq_run (by rfl) h16 (fun K hK => ⟨?_, ?_, ?_⟩); rotate_left; (· (intro wS hSw; have c0 := hSw.s3.cell 0; have c1 := hSw.s3.cell 1; have c2 := hSw.s3.cell 2; go_simp <;> with_reducible rfl)); simp only [Act.put, List.setIfInBounds_toArray, List.set_cons_zero, List.set_cons_succ]; refine hK _ ?_; clear hK K)
      | (refine wpSeq_skip (by rfl) h16 (fun K hK => ?_); simp only [Act.put, List.setIfInBounds_toArray, List.set_cons_zero, List.set_cons_succ]; refine hK _ ?_; clear hK K))
    refine wpSeq_act (by rfl) (fun K hK => ?_)
    go_simp
    refine (wide_any w _ _ (k % 4) (wrap64 a) ⟨#[]⟩ hk.1 hk.2 h16).mono ?_
    rintro e x1 ⟨rfl, j1⟩
    try dsimp only
    try simp only [Act.put, List.setIfInBounds_toArray, List.set_cons_zero, List.set_cons_succ]
    refine hK _ _ (_) ((fun _ h => h)) j1 ?_
    clear hK K
    repeat (first
      | (refine wpSeq_run (by rfl) j1 (fun K hK => ⟨?_, ?_, ?_⟩); rotate_left; (· (intro wS hSw; go_simp <;> with_reducible rfl)); simp only [Act.put, List.setIfInBounds_toArray, List.set_cons_zero, List.set_cons_succ]; refine hK _ ?_; clear hK K)
      | (refine wpSeq_skip (by rfl) j1 (fun K hK => ?_); simp only [Act.put, List.setIfInBounds_toArray, List.set_cons_zero, List.set_cons_succ]; refine hK _ ?_; clear hK K))
    refine wpSeq_act (by rfl) (fun K hK => ?_)
    go_simp
    refine (out_any w _ _ _ E8 j1.s2 (by omega)).mono ?_
    rintro e x2 ⟨a2, e2, rfl, j2⟩
    try dsimp only
    try simp only [Act.put, List.setIfInBounds_toArray, List.set_cons_zero, List.set_cons_succ]
    refine hK _ _ ((fun x => Sat w x (ownB (.slice a2 E8.length e2) E8 * (isW b11 E8 * (isW b12 E8 * (own b7 (.cells #[.int .u8 (k % 4), .int .i64 (wrap64 a), .string ⟨#[]⟩] 40 (0, 0)) * allro w)))))) ((fun _ h => h.right.s2)) j2 ?_
    clear hK K
    repeat (first
      | (refine wpSeq_run (by rfl) j2 (fun K hK => ⟨?_, ?_, ?_⟩); rotate_left; (· (intro wS hSw; have cv := run_string_of (P := Try.prog) (hSw.bytes) 22 9 5 Try.underlying22 Try.underlying5 Try.underlying9; go_simp <;> with_reducible rfl)); simp only [Act.put, List.setIfInBounds_toArray, List.set_cons_zero, List.set_cons_succ]; refine hK _ ?_; clear hK K)
      | (refine wpSeq_skip (by rfl) j2 (fun K hK => ?_); simp only [Act.put, List.setIfInBounds_toArray, List.set_cons_zero, List.set_cons_succ]; refine hK _ ?_; clear hK K))
    refine wpSeq_act (by rfl) (fun K hK => ?_)
    go_simp
    refine (out_any w _ _ _ E8 j2.s3 (by omega)).mono ?_
    rintro e x3 ⟨a3, e3, rfl, j3⟩
    try dsimp only
    try simp only [Act.put, List.setIfInBounds_toArray, List.set_cons_zero, List.set_cons_succ]
    refine hK _ _ ((fun x => Sat w x (ownB (.slice a3 E8.length e3) E8 * (isW b12 E8 * (ownB (.slice a2 E8.length e2) E8 * (isW b11 E8 * (own b7 (.cells #[.int .u8 (k % 4), .int .i64 (wrap64 a), .string ⟨#[]⟩] 40 (0, 0)) * allro w))))))) ((fun _ h => h.right.s3.s3)) j3 ?_
    clear hK K
    repeat (first
      | (refine wpSeq_run (by rfl) j3 (fun K hK => ⟨?_, ?_, ?_⟩); rotate_left; (· (intro wS hSw; have cv := run_string_of (P := Try.prog) (hSw.bytes) 22 9 5 Try.underlying22 Try.underlying5 Try.underlying9; have cv' := run_string_of (P := Try.prog) (hSw.s3.bytes) 22 9 5 Try.underlying22 Try.underlying5 Try.underlying9; go_simp <;> with_reducible rfl)); simp only [Act.put, List.setIfInBounds_toArray, List.set_cons_zero, List.set_cons_succ]; refine hK _ ?_; clear hK K)
      | (refine wpSeq_skip (by rfl) j3 (fun K hK => ?_); simp only [Act.put, List.setIfInBounds_toArray, List.set_cons_zero, List.set_cons_succ]; refine hK _ ?_; clear hK K))
    refine wpSeq_act (by rfl) (fun K hK => ?_)
    go_simp
    refine (works3 w _ _ j3).mono ?_
    rintro e x4 ⟨rfl, j4⟩
    try dsimp only
    try simp only [Act.put, List.setIfInBounds_toArray, List.set_cons_zero, List.set_cons_succ]
    refine hK _ _ (_) ((fun _ h => h)) j4 ?_
    clear hK K
    repeat (first
      | (refine wpSeq_run (by rfl) j4 (fun K hK => ⟨?_, ?_, ?_⟩); rotate_left; (· (intro wS hSw; go_simp <;> with_reducible rfl)); simp only [Act.put, List.setIfInBounds_toArray, List.set_cons_zero, List.set_cons_succ]; refine hK _ ?_; clear hK K)
      | (refine wpSeq_skip (by rfl) j4 (fun K hK => ?_); simp only [Act.put, List.setIfInBounds_toArray, List.set_cons_zero, List.set_cons_succ]; refine hK _ ?_; clear hK K))
    refine wpSeq_end ?_
    go_wp2_with fail
    go_ret
    exact ⟨rfl, j4.right.right.right.right.right⟩

theorem order_w (w : World) (a : Int) (wa : (Lit.int .u64 a).wf = true) (b : Int) (wb : (Lit.int .u64 b).wf = true) (k : Int) (wk : (Lit.int .u8 k).wf = true) :
    Calls Try.prog 10 #[.int .u64 a, .int .u64 b, .int .u8 k] w fun e w' => e = .returned (.bool true) ∧ Sat w w' (allro w) := by
  simp only [Lit.wf, Bool.and_eq_true, decide_eq_true_eq] at wa wb wk
  obtain ⟨a0, a1⟩ := wa
  obtain ⟨b0, b1⟩ := wb
  obtain ⟨k0, k1⟩ := wk
  have e : IntKind.max .u64 = 18446744073709551615 := by decide
  have e' : IntKind.max .u8 = 255 := by decide
  rw [e] at a1 b1
  rw [e'] at k1
  exact order_walk w a b k a0 (by omega) b0 (by omega) k0 (by omega)
end Go.Proofs.Ytojgdejofpafkaa
