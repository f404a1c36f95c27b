/- Checkpoint, as the document does it. -/
import Derived.Test.YtlfmkiclaijokaaGreatDoorMk34
namespace Go.Proofs.YtlfmkiclaijokaaGreatDoor
open Go.RowKit
set_option linter.unusedVariables false

theorem metW_gen (e : Int) (W : WalP) : (metW e W).gen = W.gen := by unfold metW; split <;> rfl

theorem many_append (d : DiskP) (n b : Bs) : (appendD d n b).2.files.length ≤ d.files.length + 1 := by
  unfold appendD
  split
  · exact Nat.le_succ _
  · show (stepD _).files.length ≤ _
    rw [stepD_files]
    exact len_put _ _

section
variable (u w : World) (F : HProp) (l p : Nat) (W : WalP)

/-- What Checkpoint leaves. -/
def CheckedN (u : World) (F : HProp) (l p : Nat) (R : Int × WalP × DiskP) (e : Ending) (w' : World) : Prop :=
  e = .returned (.int .i64 R.1) ∧ Sat u w' (isN l p R.2.1 * (isM p R.2.2 * F))

set_option maxRecDepth 100000 in
set_option maxHeartbeats 8000000 in
theorem ncheck_any (d : DiskP) (b : Bs) (hbl : b.length ≤ 900000) (hmany : d.files.length < 999990) (hg99 : W.gen + 1 < 100) (hs : Sat u w (isN l p W * (isM p d * F))) :
    Calls Tryz.prog 110 #[.pointer (some ⟨l, 0, none⟩), .string (str b)] w (CheckedN u F l p (checkW d W b)) := by
  have hR : checkW d W b = if W.broken ≠ 0 then (W.broken, W, d) else if 8000000 < b.length then (3, W, d) else if W.sure < W.recs.length then (2, W, d) else
    if (step0 d).1 ≠ 0 then ((step0 d).1, metW (step0 d).1 W, (step0 d).2) else
    if (appendD (step0 d).2 tmpN (frameB 75 (W.gen + 1) b)).1 ≠ 0 then ((appendD (step0 d).2 tmpN (frameB 75 (W.gen + 1) b)).1, metW (appendD (step0 d).2 tmpN (frameB 75 (W.gen + 1) b)).1 W, (appendD (step0 d).2 tmpN (frameB 75 (W.gen + 1) b)).2) else
    if (driesD (appendD (step0 d).2 tmpN (frameB 75 (W.gen + 1) b)).2 tmpN tmpN wholeL).1 ≠ 0 then ((driesD (appendD (step0 d).2 tmpN (frameB 75 (W.gen + 1) b)).2 tmpN tmpN wholeL).1, metW (driesD (appendD (step0 d).2 tmpN (frameB 75 (W.gen + 1) b)).2 tmpN tmpN wholeL).1 W, (driesD (appendD (step0 d).2 tmpN (frameB 75 (W.gen + 1) b)).2 tmpN tmpN wholeL).2) else
    if (driesD (driesD (appendD (step0 d).2 tmpN (frameB 75 (W.gen + 1) b)).2 tmpN tmpN wholeL).2 tmpN ckN wholeL).1 ≠ 0 then ((driesD (driesD (appendD (step0 d).2 tmpN (frameB 75 (W.gen + 1) b)).2 tmpN tmpN wholeL).2 tmpN ckN wholeL).1, metW (driesD (driesD (appendD (step0 d).2 tmpN (frameB 75 (W.gen + 1) b)).2 tmpN tmpN wholeL).2 tmpN ckN wholeL).1 W, (driesD (driesD (appendD (step0 d).2 tmpN (frameB 75 (W.gen + 1) b)).2 tmpN tmpN wholeL).2 tmpN ckN wholeL).2) else
    if (readD (driesD (driesD (appendD (step0 d).2 tmpN (frameB 75 (W.gen + 1) b)).2 tmpN tmpN wholeL).2 tmpN ckN wholeL).2 (nameW W.gen)).2 = 0 then
      ((removeD (driesD (driesD (appendD (step0 d).2 tmpN (frameB 75 (W.gen + 1) b)).2 tmpN tmpN wholeL).2 tmpN ckN wholeL).2 (nameW W.gen)).1, metW (removeD (driesD (driesD (appendD (step0 d).2 tmpN (frameB 75 (W.gen + 1) b)).2 tmpN tmpN wholeL).2 tmpN ckN wholeL).2 (nameW W.gen)).1 ⟨W.gen + 1, b, [], 0, 0, 0⟩, (removeD (driesD (driesD (appendD (step0 d).2 tmpN (frameB 75 (W.gen + 1) b)).2 tmpN tmpN wholeL).2 tmpN ckN wholeL).2 (nameW W.gen)).2)
    else (0, ⟨W.gen + 1, b, [], 0, 0, 0⟩, (driesD (driesD (appendD (step0 d).2 tmpN (frameB 75 (W.gen + 1) b)).2 tmpN tmpN wholeL).2 tmpN ckN wholeL).2) := rfl
  generalize checkW d W b = R at hR ⊢
  have HR := Lib.hid hR
  obtain ⟨ok, k0, k1, _, ⟨a3, c3, k3⟩, k4, _, k6⟩ := isN_cells hs
  have hg := ok.gen
  have hsu := ok.sure
  have hmw := ok.many
  have hf0 : (frameB 75 (W.gen + 1) b).length = 17 + b.length := frameB_length _ _ _
  have HF0 := Lib.hid hf0
  clear hR ok hf0
  go_enter Tryz.func110, Tryz.ntmps110
  by_cases hbr : W.broken = 0
  case neg =>
    have e := HR.out
    rw [if_pos hbr] at e
    have E := Lib.hid e
    have hb2 : (W.broken != 0) = true := by simpa using hbr
    have H := Lib.hid hs
    clear hs k0 k1 k3 k4 e
    go_wp2_with fail
    go_ret
    unfold CheckedN
    rw [E.out]
    exact ⟨rfl, H.out⟩
  rw [hbr] at k6
  have hlen : (b.length : Int) ≤ 8000000 := by omega
  have e := HR.out
  rw [if_neg (by simp [hbr]), if_neg (by omega)] at e
  have HR1 := Lib.hid e
  have HBR := Lib.hid hbr
  clear e hbr HR
  go_upto_region 5 with fail
  clear k6 k1 k0
  refine wp_region_seq [(0, true), (1, true), (2, true), (3, true), (4, true), (5, true), (6, true), (7, true), (8, true), (9, true), (10, true)] (fun x => x.cell? ⟨l, 3, none⟩ = some (.slice a3 W.recs.length c3) ∧ x.cell? ⟨l, 4, none⟩ = some (.int .i64 W.sure)) (by kernel_rfl) (by kernel_rfl) (fun _ _ _ _ _ h => h) ?_
  simp only [pickOps, Array.getD_eq_getD_getElem?, List.getElem?_toArray, List.getElem?_cons_succ, List.getElem?_cons_zero, Option.getD_some]
  have h1 := hs.drew
  have h1c : w.drew.cell? ⟨l, 3, none⟩ = some (.slice a3 W.recs.length c3) ∧ w.drew.cell? ⟨l, 4, none⟩ = some (.int .i64 W.sure) := ⟨k3, k4⟩
  generalize w.drew = w1 at h1 h1c ⊢
  clear hs k3 k4
  repeat (first
    | (refine wpSeq_run (by rfl) h1c (fun K hK => ⟨?_, ?_, ?_⟩); rotate_left; (· (intro wS hSw; have d3 := hSw.1; have d4 := hSw.2; go_simp <;> with_reducible rfl)); simp only [Act.put, List.setIfInBounds_toArray, List.set_cons_zero, List.set_cons_succ]; refine hK _ ?_; clear hK K)
    | (refine wpSeq_skip (by rfl) h1c (fun K hK => ?_); simp only [Act.put, List.setIfInBounds_toArray, List.set_cons_zero, List.set_cons_succ]; refine hK _ ?_; clear hK K))
  refine wpSeq_end ?_
  clear h1c
  by_cases hq : W.sure < W.recs.length
  · have e := HR1.out
    rw [if_pos hq] at e
    have E := Lib.hid e
    have H := Lib.hid h1
    have hq2 : (W.sure : Int) < (W.recs.length : Int) := by omega
    clear h1 e HR1
    go_wp2_with fail
    go_ret
    unfold CheckedN
    rw [E.out]
    exact ⟨rfl, H.out⟩
  have e := HR1.out
  rw [if_neg hq] at e
  have HR2 := Lib.hid e
  have hq2 : ¬ (W.sure : Int) < (W.recs.length : Int) := by omega
  clear e HR1 hq
  have ht6 : tmpN.length ≤ 1000000000 := by decide
  have hc6 : ckN.length ≤ 1000000000 := by decide
  go_wp2_with fail
  refine (nthere_any u w1 F l p W d tmpN ht6 h1).mono ?_
  rintro e w2 ⟨rfl, h2⟩
  dsimp only
  clear h1
  obtain ⟨x0, hx0⟩ : ∃ x, step0 d = x := ⟨_, rfl⟩
  have e := HR2.out
  rw [hx0] at e
  have HR3 := Lib.hid e
  clear e HR2 hq2
  have hx0m : x0.2.files.length ≤ d.files.length := by
    rw [← hx0]
    unfold step0
    split
    · unfold removeD
      split
      · exact Nat.le_refl _
      · split
        · split
          · exact List.length_filter_le _ _
          · show (stepD d).files.length ≤ _
            rw [stepD_files]; exact Nat.le_refl _
        · exact Nat.le_refl _
    · exact Nat.le_refl _
  have hx0e : okErr x0.1 := by
    rw [← hx0]
    unfold step0
    split
    · exact remove_err d tmpN
    · exact .inl rfl
  have HX0 := Lib.hid hx0
  clear hx0
  go_upto_if 33 with fail
  go_cut [5, 34, 35, 36, 37, 38] (fun t5 _ _ _ _ _ wx => t5 = .int .i64 x0.1 ∧ Sat u wx (isN l p W * (isM p x0.2 * F)))
  case first J K' hJ hmet =>
    by_cases hr : (readD d tmpN).2 = 0
    · have hs0 : removeD d tmpN = x0 := by rw [← HX0.out]; unfold step0; rw [if_pos hr]
      have hd : decide ((readD d tmpN).2 = 0) = true := decide_eq_true hr
      have HS0 := Lib.hid hs0
      rw [hd]
      clear hr hs0 hd
      obtain ⟨_, k0, _, _, _, _, _, _⟩ := isN_cells h2
      go_wp2_with fail
      refine (rremove_any u w2 _ p d tmpN ht6 h2.s2).mono ?_
      rintro e w3 ⟨rfl, h3⟩
      rw [HS0.out] at h3 ⊢
      dsimp only
      have h4 := h3.s2
      clear h2 h3 k0
      go_wp2_with fail
      go_meet
      exact ⟨rfl, h4⟩
    · have hs0 : (0, d) = x0 := by rw [← HX0.out]; unfold step0; rw [if_neg hr]
      have hd : decide ((readD d tmpN).2 = 0) = false := decide_eq_false hr
      rw [hd]
      subst hs0
      clear hr hd
      go_wp2_with fail
      go_meet
      exact ⟨rfl, h2⟩
  case rest =>
    obtain ⟨rfl, h3⟩ := hcut
    clear h2
    by_cases hz : x0.1 ≠ 0
    · have e := HR3.out
      rw [if_pos hz] at e
      have E := Lib.hid e
      have z1 : (x0.1 == 0) = false := by rw [beq_eq_false_iff_ne]; exact hz
      have z2 : (x0.1 != 0) = true := by simpa using hz
      clear e hz
      go_wp2_with fail
      refine (nmet_any u _ _ l p W x0.1 hx0e.range.1 hx0e.range.2 h3).mono ?_
      rintro e w9 ⟨rfl, h9⟩
      dsimp only
      have H := Lib.hid h9
      clear h3 h9 z1 z2
      go_wp2_with fail
      go_ret
      unfold CheckedN
      rw [E.out]
      exact ⟨rfl, H.out⟩
    have e := HR3.out
    rw [if_neg hz] at e
    have HR4 := Lib.hid e
    have hz0 : x0.1 = 0 := Classical.byContradiction hz
    rw [hz0]
    clear e HR3 hz hz0
    go_upto_region 11 with fail
    refine wp_region_seq [(0, true), (1, true), (2, true), (3, true), (4, true), (5, true), (6, true), (7, true), (8, true), (9, true), (10, false), (11, false), (12, true)] (fun x => x.cell? ⟨l, 0, none⟩ = some (.pointer (some ⟨p, 0, none⟩)) ∧ x.cell? ⟨l, 1, none⟩ = some (.int .i64 W.gen)) (by kernel_rfl) (by kernel_rfl) (fun _ _ _ _ _ h => h) ?_
    simp only [pickOps, Array.getD_eq_getD_getElem?, List.getElem?_toArray, List.getElem?_cons_succ, List.getElem?_cons_zero, Option.getD_some]
    have h4 := h3.drew
    generalize wc.drew = w4 at h4 ⊢
    clear h3
    obtain ⟨_, k0, k1, _, _, _, _, _⟩ := isN_cells h4
    have eg : IntKind.i64.wrap ((W.gen : Int) + 1) = ((W.gen + 1 : Nat) : Int) := by rw [IntWalk.i64_in _ (by omega)]; rfl
    repeat (first
      | (refine wpSeq_run (by rfl) ⟨k0, k1⟩ (fun K hK => ⟨?_, ?_, ?_⟩); rotate_left; (· (intro wS hSw; have q0 := hSw.1; have q1 := hSw.2; go_simp <;> with_reducible rfl)); simp only [Act.put, List.setIfInBounds_toArray, List.set_cons_zero, List.set_cons_succ]; refine hK _ ?_; clear hK K)
      | (refine wpSeq_skip (by rfl) ⟨k0, k1⟩ (fun K hK => ?_); simp only [Act.put, List.setIfInBounds_toArray, List.set_cons_zero, List.set_cons_succ]; refine hK _ ?_; clear hK K))
    refine wpSeq_act (by rfl) (fun K hK => ?_)
    go_simp
    refine (rstate_any u w4 _ (W.gen + 1) b (by omega) hbl h4).mono ?_
    rintro e w5 ⟨a5, c5, rfl, h5⟩
    have k0 := (isN_cells h5.right).2.1
    have k1 := (isN_cells h5.right).2.2.1
    try dsimp only
    try simp only [Act.put, List.setIfInBounds_toArray, List.set_cons_zero, List.set_cons_succ]
    refine hK _ _ (_) ((fun _ h => h)) ⟨k0, k1⟩ ?_
    clear hK K
    refine wpSeq_act (by rfl) (fun K hK => ?_)
    go_simp
    generalize hf : frameB 75 (W.gen + 1) b = f at h5 ⊢
    have HF := Lib.hid hf
    have e := HR4.out
    rw [hf] at e
    have hfl : f.length ≤ 30000000 := by rw [← hf, HF0.out]; omega
    refine (rappend_any u _ (ownB (.slice a5 f.length c5) f * (isN l p W * F)) p x0.2 tmpN f a5 c5 ht6 hfl (fun w' h => h.bytes) (by omega) (h5.eq (by ac_rfl))).mono ?_
    rintro e w6 ⟨rfl, h6⟩
    have hx1e := append_err x0.2 tmpN f
    have hx1m := many_append x0.2 tmpN f
    obtain ⟨x1, hx1⟩ : ∃ x, appendD x0.2 tmpN f = x := ⟨_, rfl⟩
    rw [hx1] at h6 hx1e hx1m e ⊢
    have HR5 := Lib.hid e
    clear e HR4 h4 h5 hf hx1 k0 k1 eg hfl
    have h7 : Sat u w6 (isN l p W * (isM p x1.2 * F)) := (h6.eq (show _ = ownB (.slice a5 f.length c5) f * (isN l p W * (isM p x1.2 * F)) by ac_rfl)).right
    have k0 := (isN_cells h7).2.1
    have k1 := (isN_cells h7).2.2.1
    clear h6
    try dsimp only
    try simp only [Act.put, List.setIfInBounds_toArray, List.set_cons_zero, List.set_cons_succ]
    refine hK _ _ (_) ((fun _ h => h)) ⟨k0, k1⟩ ?_
    clear hK K
    repeat (first
      | (refine wpSeq_run (by rfl) ⟨k0, k1⟩ (fun K hK => ⟨?_, ?_, ?_⟩); rotate_left; (· (intro wS hSw; go_simp <;> with_reducible rfl)); simp only [Act.put, List.setIfInBounds_toArray, List.set_cons_zero, List.set_cons_succ]; refine hK _ ?_; clear hK K)
      | (refine wpSeq_skip (by rfl) ⟨k0, k1⟩ (fun K hK => ?_); simp only [Act.put, List.setIfInBounds_toArray, List.set_cons_zero, List.set_cons_succ]; refine hK _ ?_; clear hK K))
    refine wpSeq_end ?_
    clear k0 k1
    by_cases hz : x1.1 ≠ 0
    · have e := HR5.out
      rw [if_pos hz] at e
      have E := Lib.hid e
      have z1 : (x1.1 == 0) = false := by rw [beq_eq_false_iff_ne]; exact hz
      have z2 : (x1.1 != 0) = true := by simpa using hz
      clear e hz
      go_wp2_with fail
      refine (nmet_any u _ _ l p W x1.1 hx1e.range.1 hx1e.range.2 h7).mono ?_
      rintro e w9 ⟨rfl, h9⟩
      dsimp only
      have H := Lib.hid h9
      clear h7 h9 z1 z2
      go_wp2_with fail
      go_ret
      unfold CheckedN
      rw [E.out]
      exact ⟨rfl, H.out⟩
    have e := HR5.out
    rw [if_neg hz] at e
    have HR6 := Lib.hid e
    have hz0 : x1.1 = 0 := Classical.byContradiction hz
    rw [hz0]
    clear e HR5 hz hz0
    have k0 := (isN_cells h7).2.1
    go_wp2_with fail
    refine (rsync_any u _ _ p x1.2 tmpN ht6 h7.s2).mono ?_
    rintro e w8 ⟨rfl, h8⟩
    dsimp only
    have hx2e := dries_err x1.2 tmpN tmpN wholeL whole_err
    obtain ⟨x2, hx2⟩ : ∃ x, driesD x1.2 tmpN tmpN wholeL = x := ⟨_, rfl⟩
    have e := HR6.out
    rw [hx2] at h8 hx2e e ⊢
    have HR7 := Lib.hid e
    clear e HR6 hx2 h7 k0
    have h9' := h8.s2
    clear h8
    by_cases hz : x2.1 ≠ 0
    · have e := HR7.out
      rw [if_pos hz] at e
      have E := Lib.hid e
      have z1 : (x2.1 == 0) = false := by rw [beq_eq_false_iff_ne]; exact hz
      have z2 : (x2.1 != 0) = true := by simpa using hz
      clear e hz
      go_wp2_with fail
      refine (nmet_any u _ _ l p W x2.1 hx2e.range.1 hx2e.range.2 h9').mono ?_
      rintro e w9 ⟨rfl, h9⟩
      dsimp only
      have H := Lib.hid h9
      clear h9' h9 z1 z2
      go_wp2_with fail
      go_ret
      unfold CheckedN
      rw [E.out]
      exact ⟨rfl, H.out⟩
    have e := HR7.out
    rw [if_neg hz] at e
    have HR8 := Lib.hid e
    have hz0 : x2.1 = 0 := Classical.byContradiction hz
    rw [hz0]
    clear e HR7 hz hz0
    have k0 := (isN_cells h9').2.1
    go_wp2_with fail
    refine (rrename_any u _ _ p x2.2 tmpN ckN ht6 hc6 h9'.s2).mono ?_
    rintro e w10 ⟨rfl, h10⟩
    dsimp only
    have hx3e := dries_err x2.2 tmpN ckN wholeL whole_err
    obtain ⟨x3, hx3⟩ : ∃ x, driesD x2.2 tmpN ckN wholeL = x := ⟨_, rfl⟩
    have e := HR8.out
    rw [hx3] at h10 hx3e e ⊢
    have HR9 := Lib.hid e
    clear e HR8 hx3 h9' k0
    have h11 := h10.s2
    clear h10
    by_cases hz : x3.1 ≠ 0
    · have e := HR9.out
      rw [if_pos hz] at e
      have E := Lib.hid e
      have z1 : (x3.1 == 0) = false := by rw [beq_eq_false_iff_ne]; exact hz
      have z2 : (x3.1 != 0) = true := by simpa using hz
      clear e hz
      go_wp2_with fail
      refine (nmet_any u _ _ l p W x3.1 hx3e.range.1 hx3e.range.2 h11).mono ?_
      rintro e w9 ⟨rfl, h9⟩
      dsimp only
      have H := Lib.hid h9
      clear h11 h9 z1 z2
      go_wp2_with fail
      go_ret
      unfold CheckedN
      rw [E.out]
      exact ⟨rfl, H.out⟩
    have e := HR9.out
    rw [if_neg hz] at e
    have HR10 := Lib.hid e
    have hz0 : x3.1 = 0 := Classical.byContradiction hz
    rw [hz0]
    clear e HR9 hz hz0
    obtain ⟨_, k0, k1, _, _, _, _, _⟩ := isN_cells h11
    go_wp2_with fail
    refine (rname_any _ W.gen hg).mono ?_
    rintro e w12 ⟨rfl, rfl⟩
    dsimp only
    obtain ⟨okw, a13, c13, h13⟩ := isN_iff.1 h11
    clear h11 k0
    have c1' := h13.cell 1
    have c2' := h13.cell 2
    have c3' := h13.cell 3
    have c4' := h13.cell 4
    have c5' := h13.cell 5
    have f1' := h13.free 1
    have f2' := h13.free 2
    have f3' := h13.free 3
    have f4' := h13.free 4
    have f5' := h13.free 5
    have eg : IntKind.i64.wrap ((W.gen : Int) + 1) = (W.gen : Int) + 1 := IntWalk.i64_in _ (by omega)
    have h14 := ((((h13.setCell 1 (.int .i64 ((W.gen : Int) + 1))).setCell 2 (.string (str b))).setCell 3 (.slice none 0 0)).setCell 4 (.int .i64 0)).setCell 5 (.int .i64 0)
    go_upto_region 24 with fail
    generalize ((((w12.setCell ⟨l, 1, none⟩ (.int .i64 ((W.gen : Int) + 1))).setCell ⟨l, 2, none⟩ (.string (str b))).setCell ⟨l, 3, none⟩ (.slice none 0 0)).setCell ⟨l, 4, none⟩ (.int .i64 0)).setCell ⟨l, 5, none⟩ (.int .i64 0) = w14 at h14 ⊢
    have okn : OkW ⟨W.gen + 1, b, [], 0, 0, 0⟩ := ⟨hg99, Nat.zero_le _, Nat.zero_le _, Nat.zero_le _, (by show b.length ≤ 100000000; omega), (fun y hy => by cases hy), (by show (-9223372036854775808 : Int) ≤ 0; decide), (by show (0 : Int) ≤ _; decide)⟩
    have h15 : Sat u w14 (isN l p ⟨W.gen + 1, b, [], 0, 0, 0⟩ * (isM p x3.2 * F)) := by
      have h16 : Sat u w14 (own l (headN p (.slice none 0 0) ⟨W.gen + 1, b, [], 0, 0, 0⟩) * (isM p x3.2 * F)) := by
        have h17 := h14.dr
        unfold headN at h17
        rw [HBR.out] at h17
        exact h17
      exact isN_iff.2 ⟨okn, none, 0, (Sat.row_nil h16 : Sat u w14 (ownRow 9 1 (.slice none 0 0) 0 [] * _)).s2⟩
    clear h13 h14 c1' c2' c3' c4' c5' f1' f2' f3' f4' f5' eg k1
    have hnl : (nameW W.gen).length ≤ 1000000000 := by have := nameW_len W.gen; omega
    go_wp2_with fail
    refine (nthere_any u w14 F l p _ x3.2 (nameW W.gen) hnl h15).mono ?_
    rintro e w16 ⟨rfl, h16⟩
    dsimp only
    clear h15
    by_cases hr : (readD x3.2 (nameW W.gen)).2 = 0
    · have e := HR10.out
      rw [if_pos hr] at e
      have hd : decide ((readD x3.2 (nameW W.gen)).2 = 0) = true := decide_eq_true hr
      rw [hd]
      have k0 := (isN_cells h16).2.1
      have hx4e := remove_err x3.2 (nameW W.gen)
      obtain ⟨x4, hx4⟩ : ∃ x, removeD x3.2 (nameW W.gen) = x := ⟨_, rfl⟩
      rw [hx4] at e hx4e
      have E := Lib.hid e
      have HX4 := Lib.hid hx4
      clear hr hd e hx4
      go_wp2_with fail
      refine (rremove_any u w16 _ p x3.2 (nameW W.gen) hnl h16.s2).mono ?_
      rintro e w17 ⟨rfl, h17⟩
      rw [HX4.out] at h17 ⊢
      dsimp only
      have h18 := h17.s2
      clear h16 h17 k0
      go_wp2_with fail
      refine (nmet_any u w17 _ l p _ x4.1 hx4e.range.1 hx4e.range.2 h18).mono ?_
      rintro e w19 ⟨rfl, h19⟩
      dsimp only
      have H := Lib.hid h19
      clear h18 h19
      go_wp2_with fail
      go_ret
      unfold CheckedN
      rw [E.out]
      exact ⟨rfl, H.out⟩
    · have e := HR10.out
      rw [if_neg hr] at e
      have E := Lib.hid e
      have hd : decide ((readD x3.2 (nameW W.gen)).2 = 0) = false := decide_eq_false hr
      rw [hd]
      have H := Lib.hid h16
      clear hr hd e h16
      go_wp2_with fail
      go_ret
      unfold CheckedN
      rw [E.out]
      exact ⟨rfl, H.out⟩
end
end Go.Proofs.YtlfmkiclaijokaaGreatDoor
