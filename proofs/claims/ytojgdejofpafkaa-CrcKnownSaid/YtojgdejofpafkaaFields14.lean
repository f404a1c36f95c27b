/- The walk of FieldsAgain. -/
import Derived.Test.YtojgdejofpafkaaFields13
namespace Go.Proofs.Ytojgdejofpafkaa
open Go.RowKit
set_option linter.unusedVariables false

theorem wd_le (k : Int) : wd k ≤ 8 := by
  unfold wd
  repeat' split
  all_goals omega

/-- What was read is put as it stood. -/
theorem pb_read {all : List UInt8} {pos q : Nat} {k m : Int} (h : rd all (some pos) (ask k m) = some q) :
    pos ≤ q ∧ q ≤ all.length ∧ all.take pos ++ pb k (rnum all (some pos) k m) (str (rrow all (some pos) k m)) = all.take q := by
  have hc : 0 ≤ ask k m ∧ (pos : Int) + ask k m ≤ all.length := by
    simp only [rd] at h
    split at h
    · assumption
    · cases h
  simp only [rd, if_pos hc, Option.some.injEq] at h
  have hb : bs all (some pos) (ask k m) = (all.drop pos).take (ask k m).toNat := by simp only [bs, if_pos hc]
  have hl : ((all.drop pos).take (ask k m).toNat).length = (ask k m).toNat := by simp; omega
  have hp : pb k (rnum all (some pos) k m) (str (rrow all (some pos) k m)) = (all.drop pos).take (ask k m).toNat := by
    unfold rnum rrow
    by_cases hw : wd k = 0
    · rw [if_pos hw, if_pos hw, hb]
      unfold pb
      rw [if_pos hw, str_data]
    · rw [if_neg hw, if_neg hw, hb]
      have ha : (ask k m).toNat = wd k := by unfold ask; rw [if_neg hw]; rfl
      rw [ha] at hl ⊢
      have hn : num ((all.drop pos).take (wd k)) < 256 ^ 8 := by
        have := num_lt ((all.drop pos).take (wd k))
        rw [hl] at this
        exact Nat.lt_of_lt_of_le this (pow_wd k)
      unfold pb
      rw [if_neg hw, U_wrap _ hn]
      have hbn := be_num ((all.drop pos).take (wd k))
      rwa [hl] at hbn
  refine ⟨by omega, by omega, ?_⟩
  rw [hp, ← h]
  exact (List.take_add).symm

theorem BytesAt.take {w : World} {a : Option Addr} {len c : Nat} {all : List UInt8} (h : BytesAt w (.slice a len c) all) (n : Nat) (hn : n ≤ all.length) : BytesAt w (.slice a n c) (all.take n) := by
  have hl : (all.take n).length = n := by simp; omega
  rcases h with ⟨hv, h0, hx⟩ | ⟨a', c', hv, h1, h2, h3⟩
  · cases hv
    have : all = [] := List.eq_nil_of_length_eq_zero h0
    subst this
    simp at hn
    subst hn
    exact .inl ⟨rfl, rfl, rfl⟩
  · cases hv
    unfold BytesAt
    rw [hl]
    refine .inr ⟨a', c, rfl, by omega, h2, fun j u hu => h3 j u ?_⟩
    simp only [List.map_take, List.getElem?_take] at hu
    split at hu
    · exact hu
    · cases hu

set_option maxHeartbeats 4000000 in
theorem again_walk (w : World) (v : Value) (ob : List UInt8) (hb : BytesAt w v ob) (a : Option Addr) (n c : Nat) (ps : List Pc) (h : PcsAt w a n c ps) :
    Calls Try.prog 13 #[v, .slice a n c] w fun e w' => e = .returned (.bool true) ∧ Sat w w' (allro w) := by
  have hs := sat_allro w
  obtain ⟨oa, oc, rfl, ho1, ho2⟩ := RowAt.len hb
  have hol : ob.length ≤ 9223372036854775807 := Nat.le_trans ho1 ho2
  have hnl : n ≤ 9223372036854775807 := Nat.le_trans h.le h.most
  by_cases ho : 2000 < ob.length
  · clear h hb
    have hd : decide ((ob.length : Int) ≤ 2000) = false := by simp; omega
    go_enter Try.func13, Try.ntmps13
    go_wp2_with fail
    refine (works3 w w _ hs).mono ?_
    rintro e w1 ⟨rfl, h1⟩
    go_wp2
    go_ret
    exact ⟨rfl, h1⟩
  by_cases hn : 60 < n
  · clear h hb
    have hd2 : decide ((ob.length : Int) ≤ 2000) = true := by simp; omega
    have hd : decide ((n : Int) ≤ 60) = false := by simp; omega
    go_enter Try.func13, Try.ntmps13
    go_wp2_with fail
    refine (works3 w w _ hs).mono ?_
    rintro e w1 ⟨rfl, h1⟩
    go_wp2
    go_ret
    exact ⟨rfl, h1⟩
  have hd : decide ((ob.length : Int) ≤ 2000) = true := by simp; omega
  have hd2 : decide ((n : Int) ≤ 60) = true := by simp; omega
  have HO := Lib.hid (fun w' (h' : Sat w w' (allro w)) => hb.below h'.below)
  have HP := Lib.hid (fun j (hj : j < n) => h.all hj)
  clear h
  go_enter Try.func13, Try.ntmps13
  go_wp2_with fail
  refine (open_any w w _ _ ob hs hb (by omega)).mono ?_
  rintro e w1 ⟨p, rfl, h1⟩
  clear hb
  dsimp only
  have h2 := isW_new h1
  go_wp2
  generalize w1.heap.size = b6 at h2 ⊢
  generalize w1.alloc _ = w2 at h2 ⊢
  clear h1
  go_loopw [7] (fun i wr => ∃ j pos : Nat, j ≤ n ∧ pos ≤ ob.length ∧ i = .int .i64 j ∧ Sat w wr (isW b6 (ob.take pos) * (isR p ob (some pos) * allro w))) (fun i _ => n - (intOf i).toNat)
  case atStart => exact ⟨0, 0, Nat.zero_le _, Nat.zero_le _, rfl, h2⟩
  case round =>
    clear h2
    obtain ⟨j, pos, hj, hpos, rfl, h2⟩ := hrel
    have hle : leftOf ob (some pos) = ob.length - pos := rfl
    obtain ⟨L, hL, hLe⟩ : ∃ L, leftOf ob (some pos) = L ∧ L + pos = ob.length := ⟨_, rfl, by rw [hle]; omega⟩
    have HL := Lib.hid hL
    clear hL hle
    have hw : IntKind.i64.wrap ((ob.length : Int) - L) = (pos : Int) := by rw [show ((ob.length : Int) - L) = (pos : Int) by omega]; exact IntWalk.i64_in _ (by omega)
    have HTake : (ob.take pos).length = pos := by simp; omega
    have HT := Lib.hid HTake
    clear HTake
    by_cases hlt : j < n
    · obtain ⟨b, o, k, m, s, rfl, hx, hok, hc⟩ := HP.out j hlt
      obtain ⟨k0, k1, m0, m1, _⟩ := hok
      simp only at k0 k1 m0 m1
      clear hx
      go_wp2_with fail
      refine (rleft_any w wr _ p ob _ (by omega) h2.s2).mono ?_
      rintro e x1 ⟨rfl, nq, rfl⟩
      rw [HL.out]
      have h3 := h2.drewN nq
      generalize wr.drewN nq = x1 at h3 ⊢
      dsimp only
      clear h2
      obtain ⟨c0, c1, c2⟩ := hc x1 h3.right.right
      go_wp2_with fail
      refine (read_any w x1 _ p ob _ k m s k0 k1 (by omega) h3.s2).mono ?_
      rintro e x2 ⟨rfl, h4⟩
      dsimp only
      clear c0 c1 c2 h3
      have HBK := Lib.hid (@pb_read ob pos · k m)
      have hrl : (rrow ob (some pos) k m).length ≤ ob.length := by
        unfold rrow
        split
        · exact bs_len _ _ _
        · simp
      generalize rnum ob (some pos) k m = rn at HBK ⊢
      generalize rrow ob (some pos) k m = rw' at HBK hrl ⊢
      generalize hrd : rd ob (some pos) (ask k m) = st at HBK h4
      clear hrd
      go_wp2_with fail
      have h5 := h4.alloc (.cells #[.int .u8 k, .int .i64 rn, .string (str rw')] 40)
      generalize x2.heap.size = b9 at h5 ⊢
      generalize x2.alloc _ = x3 at h5 ⊢
      clear h4
      refine (rbad_any w x3 _ p ob st h5.s2).mono ?_
      rintro e x4 ⟨rfl, rfl⟩
      cases st with
      | none =>
        simp only [Option.isNone_none]
        have h6 := h5.right.right
        have z1 : (0 : Int) ≤ (pos : Int) := by omega
        have z2 : (pos : Int) ≤ oc := by omega
        clear h5 HBK
        go_upto_region 11 with fail
        refine wp_region_seq [(2, true), (3, true), (4, true), (5, true), (6, true), (7, true), (8, true), (0, false), (1, true), (9, true), (10, true), (11, false), (12, true), (13, true)] (fun x => Sat w x (isW b6 (ob.take pos) * allro w)) (by kernel_rfl) (by kernel_rfl) (fun _ _ _ _ _ h => h) ?_
        simp only [pickOps, Array.getD_eq_getD_getElem?, List.getElem?_toArray, List.getElem?_cons_succ, List.getElem?_cons_zero, Option.getD_some]
        have h7 := h6.drew
        repeat (first
          | (refine wpSeq_run (by rfl) h7 (fun K hK => ⟨?_, ?_, ?_⟩); rotate_left; (· (intro wS hSw; go_simp <;> with_reducible rfl)); simp only [Act.put, List.setIfInBounds_toArray, List.set_cons_zero, List.set_cons_succ]; refine hK _ ?_; clear hK K)
          | (refine wpSeq_skip (by rfl) h7 (fun K hK => ?_); simp only [Act.put, List.setIfInBounds_toArray, List.set_cons_zero, List.set_cons_succ]; refine hK _ ?_; clear hK K))
        repeat (first
          | (refine wpSeq_run (by rfl) h7 (fun K hK => ⟨?_, ?_, ?_⟩); rotate_left; (· (intro wS hSw; have cv := run_string_of (P := Try.prog) (((HO.out _ hSw.right).take pos hpos)) 22 9 5 Try.underlying22 Try.underlying5 Try.underlying9; go_simp <;> with_reducible rfl)); simp only [Act.put, List.setIfInBounds_toArray, List.set_cons_zero, List.set_cons_succ]; refine hK _ ?_; clear hK K)
          | (refine wpSeq_skip (by rfl) h7 (fun K hK => ?_); simp only [Act.put, List.setIfInBounds_toArray, List.set_cons_zero, List.set_cons_succ]; refine hK _ ?_; clear hK K))
        refine wpSeq_act (by rfl) (fun K hK => ?_)
        go_simp
        refine (out_any w _ _ b6 _ h7 (by rw [HT.out]; omega)).mono ?_
        rw [HT.out]
        rintro e x5 ⟨a5, c5, rfl, h8⟩
        try dsimp only
        try simp only [Act.put, List.setIfInBounds_toArray, List.set_cons_zero, List.set_cons_succ]
        refine hK _ _ (fun x => Sat w x (ownB (.slice a5 pos c5) (ob.take pos) * (isW b6 (ob.take pos) * allro w))) ((fun _ h => h.right)) h8 ?_
        clear hK K
        repeat (first
          | (refine wpSeq_run (by rfl) h8 (fun K hK => ⟨?_, ?_, ?_⟩); rotate_left; (· (intro wS hSw; have cv := run_string_of (P := Try.prog) (((HO.out _ hSw.right.right).take pos hpos)) 22 9 5 Try.underlying22 Try.underlying5 Try.underlying9; have cv' := run_string_of (P := Try.prog) ((hSw.bytes)) 22 9 5 Try.underlying22 Try.underlying5 Try.underlying9; go_simp <;> with_reducible rfl)); simp only [Act.put, List.setIfInBounds_toArray, List.set_cons_zero, List.set_cons_succ]; refine hK _ ?_; clear hK K)
          | (refine wpSeq_skip (by rfl) h8 (fun K hK => ?_); simp only [Act.put, List.setIfInBounds_toArray, List.set_cons_zero, List.set_cons_succ]; refine hK _ ?_; clear hK K))
        refine wpSeq_act (by rfl) (fun K hK => ?_)
        go_simp
        refine (works3 w _ _ h8).mono ?_
        rintro e x6 ⟨rfl, h9⟩
        try dsimp only
        try simp only [Act.put, List.setIfInBounds_toArray, List.set_cons_zero, List.set_cons_succ]
        refine hK _ _ (_) ((fun _ h => h)) h9 ?_
        clear hK K
        repeat (first
          | (refine wpSeq_run (by rfl) h9 (fun K hK => ⟨?_, ?_, ?_⟩); rotate_left; (· (intro wS hSw; go_simp <;> with_reducible rfl)); simp only [Act.put, List.setIfInBounds_toArray, List.set_cons_zero, List.set_cons_succ]; refine hK _ ?_; clear hK K)
          | (refine wpSeq_skip (by rfl) h9 (fun K hK => ?_); simp only [Act.put, List.setIfInBounds_toArray, List.set_cons_zero, List.set_cons_succ]; refine hK _ ?_; clear hK K))
        refine wpSeq_end ?_
        go_wp2_with fail
        go_ret
        exact ⟨rfl, h9.right.right⟩
      | some q =>
        simp only [Option.isNone_some]
        obtain ⟨hq1, hq2, hq3⟩ := HBK.out q rfl
        have c0 := h5.cell 0
        have c1 := h5.cell 1
        have c2 := h5.cell 2
        have HQ := Lib.hid hq3
        clear hq3 HBK
        go_wp2_with fail
        refine (put_any w x3 _ b6 _ k rn (str rw') k0 k1 h5.s3 (by rw [HT.out, str_size]; omega)).mono ?_
        rw [HQ.out]
        rintro e x5 ⟨rfl, h6⟩
        dsimp only
        clear c0 c1 c2 h5
        go_wp2
        go_roundw
        case rel => exact ⟨j + 1, q, hlt, hq2, by go_num, h6.dr⟩
        case measure => simp [intOf]; omega
    · have z1 : (0 : Int) ≤ (pos : Int) := by omega
      have z2 : (pos : Int) ≤ oc := by omega
      go_upto_region 13 with fail
      refine wp_region_seq [(2, true), (3, true), (4, true), (5, true), (0, false), (1, true), (6, false), (7, true), (8, true), (9, true), (10, true), (11, true), (12, false), (13, true), (14, true)] (fun x => Sat w x (isW b6 (ob.take pos) * (isR p ob (some pos) * allro w))) (by kernel_rfl) (by kernel_rfl) (fun _ _ _ _ _ h => h) ?_
      simp only [pickOps, Array.getD_eq_getD_getElem?, List.getElem?_toArray, List.getElem?_cons_succ, List.getElem?_cons_zero, Option.getD_some]
      have h7 := h2.drew
      repeat (first
        | (refine wpSeq_run (by rfl) h7 (fun K hK => ⟨?_, ?_, ?_⟩); rotate_left; (· (intro wS hSw; go_simp <;> with_reducible rfl)); simp only [Act.put, List.setIfInBounds_toArray, List.set_cons_zero, List.set_cons_succ]; refine hK _ ?_; clear hK K)
        | (refine wpSeq_skip (by rfl) h7 (fun K hK => ?_); simp only [Act.put, List.setIfInBounds_toArray, List.set_cons_zero, List.set_cons_succ]; refine hK _ ?_; clear hK K))
      refine wpSeq_act (by rfl) (fun K hK => ?_)
      go_simp
      refine (out_any w _ _ b6 _ h7 (by rw [HT.out]; omega)).mono ?_
      rw [HT.out]
      rintro e x5 ⟨a5, c5, rfl, h8⟩
      try dsimp only
      try simp only [Act.put, List.setIfInBounds_toArray, List.set_cons_zero, List.set_cons_succ]
      refine hK _ _ (fun x => Sat w x (ownB (.slice a5 pos c5) (ob.take pos) * (isW b6 (ob.take pos) * (isR p ob (some pos) * allro w)))) ((fun _ h => h.right)) h8 ?_
      clear hK K
      repeat (first
        | (refine wpSeq_run (by rfl) h8 (fun K hK => ⟨?_, ?_, ?_⟩); rotate_left; (· (intro wS hSw; have cv' := run_string_of (P := Try.prog) ((hSw.bytes)) 22 9 5 Try.underlying22 Try.underlying5 Try.underlying9; go_simp <;> with_reducible rfl)); simp only [Act.put, List.setIfInBounds_toArray, List.set_cons_zero, List.set_cons_succ]; refine hK _ ?_; clear hK K)
        | (refine wpSeq_skip (by rfl) h8 (fun K hK => ?_); simp only [Act.put, List.setIfInBounds_toArray, List.set_cons_zero, List.set_cons_succ]; refine hK _ ?_; clear hK K))
      refine wpSeq_act (by rfl) (fun K hK => ?_)
      go_simp
      refine (rleft_any w _ _ p ob _ (by omega) h8.s3).mono ?_
      rintro e x6 ⟨rfl, nq, rfl⟩
      rw [HL.out]
      have h9 := h8.drewN nq
      generalize x5.drewN nq = x6 at h9 ⊢
      try dsimp only
      try simp only [Act.put, List.setIfInBounds_toArray, List.set_cons_zero, List.set_cons_succ]
      refine hK _ _ (_) ((fun _ h => h)) h9 ?_
      clear hK K
      repeat (first
        | (refine wpSeq_run (by rfl) h9 (fun K hK => ⟨?_, ?_, ?_⟩); rotate_left; (· (intro wS hSw; have cv := run_string_of (P := Try.prog) (((HO.out _ hSw.right.right.right).take pos hpos)) 22 9 5 Try.underlying22 Try.underlying5 Try.underlying9; go_simp <;> with_reducible rfl)); simp only [Act.put, List.setIfInBounds_toArray, List.set_cons_zero, List.set_cons_succ]; refine hK _ ?_; clear hK K)
        | (refine wpSeq_skip (by rfl) h9 (fun K hK => ?_); simp only [Act.put, List.setIfInBounds_toArray, List.set_cons_zero, List.set_cons_succ]; refine hK _ ?_; clear hK K))
      refine wpSeq_act (by rfl) (fun K hK => ?_)
      go_simp
      refine (works3 w _ _ h9).mono ?_
      rintro e x7 ⟨rfl, h10⟩
      try dsimp only
      try simp only [Act.put, List.setIfInBounds_toArray, List.set_cons_zero, List.set_cons_succ]
      refine hK _ _ (_) ((fun _ h => h)) h10 ?_
      clear hK K
      repeat (first
        | (refine wpSeq_run (by rfl) h10 (fun K hK => ⟨?_, ?_, ?_⟩); rotate_left; (· (intro wS hSw; go_simp <;> with_reducible rfl)); simp only [Act.put, List.setIfInBounds_toArray, List.set_cons_zero, List.set_cons_succ]; refine hK _ ?_; clear hK K)
        | (refine wpSeq_skip (by rfl) h10 (fun K hK => ?_); simp only [Act.put, List.setIfInBounds_toArray, List.set_cons_zero, List.set_cons_succ]; refine hK _ ?_; clear hK K))
      refine wpSeq_end ?_
      go_wp2_with fail
      go_ret
      exact ⟨rfl, h10.right.right.right⟩
end Go.Proofs.Ytojgdejofpafkaa
