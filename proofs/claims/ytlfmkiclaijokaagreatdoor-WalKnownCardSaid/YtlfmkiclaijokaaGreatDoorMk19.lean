/- wal: Checkpoint. -/
import Derived.Test.YtlfmkiclaijokaaGreatDoorMk18
import Derived.Laws.EntriesVeiled
namespace Go.Proofs.YtlfmkiclaijokaaGreatDoor
open Go.RowKit
set_option linter.unusedVariables false

theorem ckStep_many (W : WalP) (b : Bs) (k : Nat) (d : DiskP) : (ckStep W b k d).2.files.length ≤ d.files.length + 1 := by
  have hdel : ∀ n, (delF n d.files).length ≤ d.files.length := fun n => List.length_filter_le _ _
  have hrem : ∀ n, (removeD d n).2.files.length ≤ d.files.length + 1 := fun n => by
    unfold removeD
    split
    · exact Nat.le_succ _
    · split
      · split
        · exact Nat.le_succ_of_le (hdel n)
        · show (stepD d).files.length ≤ _; rw [stepD_files]; exact Nat.le_succ _
      · exact Nat.le_succ _
  have hdry : ∀ n m, (driesD d n m wholeL).2.files.length ≤ d.files.length + 1 := fun n m => by
    unfold driesD
    split
    · exact Nat.le_succ _
    · split
      · exact Nat.le_succ _
      · split
        · exact Nat.le_succ _
        · split
          · exact Nat.le_trans (len_put _ _) (Nat.succ_le_succ (hdel n))
          · show (stepD d).files.length ≤ _; rw [stepD_files]; exact Nat.le_succ _
  unfold ckStep
  split
  · unfold step0
    split
    · exact hrem _
    · exact Nat.le_succ _
  · unfold appendD
    split
    · exact Nat.le_succ _
    · show (stepD _).files.length ≤ _
      rw [stepD_files]
      exact len_put _ _
  · exact hdry _ _
  · exact hdry _ _

theorem isL_anew {u w : World} {X A B C : HProp} {l p : Nat} {W : WalP} {sv : Value} (hok : OkW W) (hr : W.recs = []) (h : Sat u w (own l (logHead p sv (.slice none 0 0) W) * (roB sv W.state * (A * (B * (C * X)))))) : Sat u w (isL l p W * X) := by
  have h1 : Sat u w (own l (logHead p sv (.slice none 0 0) W) * (roB sv W.state * X)) := (h.eq (show _ = A * (B * (C * (own l (logHead p sv (.slice none 0 0) W) * (roB sv W.state * X)))) by ac_rfl)).right.right.right
  have h2 : Sat u w (ownRow 34 1 (.slice none 0 0) 0 [] * (fact True * (own l (logHead p sv (.slice none 0 0) W) * (roB sv W.state * X)))) := Sat.row_nil (Sat.fact_iff.2 ⟨trivial, h1⟩)
  exact isL_mk (R := []) hok (by rw [hr]; rfl) (h2.eq (by show _ = own l _ * (roB sv W.state * (ownRow 34 1 (.slice none 0 0) 0 [] * (fact True * X))); ac_rfl))

/-- The blocks of a Checkpoint. -/
abbrev ckArr (b2 b3 : Nat) : Value := .agg #[.func (.func 37) #[] #[.pointer (some ⟨b2, 0, none⟩)], .func (.func 40) #[] #[.pointer (some ⟨b2, 0, none⟩), .pointer (some ⟨b3, 0, none⟩)], .func (.func 42) #[] #[.pointer (some ⟨b2, 0, none⟩)], .func (.func 43) #[] #[.pointer (some ⟨b2, 0, none⟩)]]

theorem idx_ck_0 (b2 : Nat) (w : World) : (Instr.index 70 (.agg #[.func (.func 37) #[] #[.pointer (some ⟨b2, 0, none⟩)], .func (.func 40) #[] #[.pointer (some ⟨b2, 0, none⟩), .pointer (some ⟨b2 + 1, 0, none⟩)], .func (.func 42) #[] #[.pointer (some ⟨b2, 0, none⟩)], .func (.func 43) #[] #[.pointer (some ⟨b2, 0, none⟩)]]) (.int .i64 0)).run Tryz.prog w = .ok (.func (.func 37) #[] #[.pointer (some ⟨b2, 0, none⟩)]) w := by
  have hu := Tryz.underlying70
  simp [Instr.index, run_underlying hu, asIntOf, go_sem]

theorem idx_ck_1 (b2 : Nat) (w : World) : (Instr.index 70 (.agg #[.func (.func 37) #[] #[.pointer (some ⟨b2, 0, none⟩)], .func (.func 40) #[] #[.pointer (some ⟨b2, 0, none⟩), .pointer (some ⟨b2 + 1, 0, none⟩)], .func (.func 42) #[] #[.pointer (some ⟨b2, 0, none⟩)], .func (.func 43) #[] #[.pointer (some ⟨b2, 0, none⟩)]]) (.int .i64 1)).run Tryz.prog w = .ok (.func (.func 40) #[] #[.pointer (some ⟨b2, 0, none⟩), .pointer (some ⟨b2 + 1, 0, none⟩)]) w := by
  have hu := Tryz.underlying70
  simp [Instr.index, run_underlying hu, asIntOf, go_sem]

theorem idx_ck_2 (b2 : Nat) (w : World) : (Instr.index 70 (.agg #[.func (.func 37) #[] #[.pointer (some ⟨b2, 0, none⟩)], .func (.func 40) #[] #[.pointer (some ⟨b2, 0, none⟩), .pointer (some ⟨b2 + 1, 0, none⟩)], .func (.func 42) #[] #[.pointer (some ⟨b2, 0, none⟩)], .func (.func 43) #[] #[.pointer (some ⟨b2, 0, none⟩)]]) (.int .i64 2)).run Tryz.prog w = .ok (.func (.func 42) #[] #[.pointer (some ⟨b2, 0, none⟩)]) w := by
  have hu := Tryz.underlying70
  simp [Instr.index, run_underlying hu, asIntOf, go_sem]

theorem idx_ck_3 (b2 : Nat) (w : World) : (Instr.index 70 (.agg #[.func (.func 37) #[] #[.pointer (some ⟨b2, 0, none⟩)], .func (.func 40) #[] #[.pointer (some ⟨b2, 0, none⟩), .pointer (some ⟨b2 + 1, 0, none⟩)], .func (.func 42) #[] #[.pointer (some ⟨b2, 0, none⟩)], .func (.func 43) #[] #[.pointer (some ⟨b2, 0, none⟩)]]) (.int .i64 3)).run Tryz.prog w = .ok (.func (.func 43) #[] #[.pointer (some ⟨b2, 0, none⟩)]) w := by
  have hu := Tryz.underlying70
  simp [Instr.index, run_underlying hu, asIntOf, go_sem]

section
variable (u w : World) (F : HProp) (l p : Nat) (W : WalP) (d : DiskP) (b : Bs) (ab : Option Addr) (cb : Nat)

set_option maxRecDepth 100000 in
set_option maxHeartbeats 8000000 in
theorem lcheck_any (hbl : b.length ≤ 100000000) (hb : ∀ w', Sat u w' F → BytesAt w' (.slice ab b.length cb) b) (hmany : d.files.length < 999990) (hg99 : W.gen + 1 < 100) (hs : Sat u w (isL l p W * (isD p d * F))) :
    Calls Tryz.prog 11 #[.pointer (some ⟨l, 0, none⟩), .slice ab b.length cb] w fun e w' => e = .returned (.int .i64 (checkW d W b).1) ∧ Sat u w' (isL l p (checkW d W b).2.1 * (isD p (checkW d W b).2.2 * F)) := by
  have hmf : ∀ (fn : Fn) (first cap : Array Value) (w : World), (Instr.makeFunc fn first cap).run Tryz.prog w = .ok (.func fn first cap) w := fun _ _ _ _ => rfl
  generalize hR : checkW d W b = R
  have HR := Lib.hid hR
  have HB := Lib.hid hb
  have h1 := (hs.alloc (.cells #[.pointer (some ⟨l, 0, none⟩)] 28)).alloc (.cells #[.slice ab b.length cb] 34)
  rw [World.size_alloc] at h1
  generalize hq : w.heap.size = q at h1
  have h2 : Sat u _ (own q (.cells #[.pointer (some ⟨l, 0, none⟩)] 28 (0, 0)) * (own (q + 1) (.cells #[.slice ab b.length cb] 34 (0, 0)) * (isL l p W * (isD p d * F)))) := h1.s2
  obtain ⟨ok, _, _, _, _, _, _, _⟩ := isL_cells h2.right.right
  have hg := ok.gen
  have hsu := ok.sure
  have hrm := ok.many
  have HQ := Lib.hid hq
  clear hR hb hs h1 hq ok
  go_enter Tryz.func11, Tryz.ntmps11
  go_wp2_with fail
  rw [HQ.out]
  refine (lbroken_any u _ _ l p W h2.s3).mono ?_
  rintro e w1 ⟨rfl, rfl⟩
  dsimp only
  generalize (w.alloc (.cells #[.pointer (some ⟨l, 0, none⟩)] 28)).alloc (.cells #[.slice ab b.length cb] 34) = w1 at h2 ⊢
  clear HQ
  by_cases hbr : W.broken = 0
  case neg =>
    have e := HR.out
    unfold checkW at e
    rw [if_pos hbr] at e
    subst e
    have hb2 : (W.broken != 0) = true := by simpa using hbr
    have H := Lib.hid h2.right.right
    clear h2
    go_wp2_with fail
    go_ret
    exact ⟨rfl, H.out⟩
  rw [hbr]
  have HBR := Lib.hid hbr
  have c3 : w1.cell? ⟨q + 1, 0, none⟩ = some (.slice ab b.length cb) := h2.right.cell 0
  clear hbr
  by_cases hlen : (8000000 : Int) < b.length
  · have e := HR.out
    unfold checkW at e
    rw [if_neg (by simp [HBR.out]), if_pos (by omega)] at e
    subst e
    have H := Lib.hid h2.right.right
    clear h2
    go_wp2_with fail
    go_ret
    exact ⟨rfl, H.out⟩
  go_wp2_with fail
  obtain ⟨_, _, _, _, ⟨a3, c3', k3⟩, k4, _, _⟩ := isL_cells h2.right.right
  refine wp_region_seq [(0, true), (1, true), (2, true), (3, true), (4, true), (5, true), (6, true), (7, true), (8, true), (9, true), (10, true)] (fun x => x.cell? ⟨q, 0, none⟩ = some (.pointer (some ⟨l, 0, none⟩)) ∧ x.cell? ⟨l, 4, none⟩ = some (.int .i64 W.sure) ∧ x.cell? ⟨l, 3, none⟩ = some (.slice a3 W.recs.length c3')) (by kernel_rfl) (by kernel_rfl) (fun _ _ _ _ _ h => h) ?_
  simp only [pickOps, Array.getD_eq_getD_getElem?, List.getElem?_toArray, List.getElem?_cons_succ, List.getElem?_cons_zero, Option.getD_some]
  have h3 := h2.drew
  have hS : w1.drew.cell? ⟨q, 0, none⟩ = some (.pointer (some ⟨l, 0, none⟩)) ∧ w1.drew.cell? ⟨l, 4, none⟩ = some (.int .i64 W.sure) ∧ w1.drew.cell? ⟨l, 3, none⟩ = some (.slice a3 W.recs.length c3') := ⟨h2.cell 0, k4, k3⟩
  generalize w1.drew = w2 at h3 hS ⊢
  clear h2 k3 k4 c3
  repeat (first
    | (refine wpSeq_run (by rfl) hS (fun K hK => ⟨?_, ?_, ?_⟩); rotate_left; (· (intro wS hSw; have d1 := hSw.1; have d2 := hSw.2.1; have d3 := hSw.2.2; go_simp <;> with_reducible rfl)); simp only [Act.put, List.setIfInBounds_toArray, List.set_cons_zero, List.set_cons_succ]; refine hK _ ?_; clear hK K)
    | (refine wpSeq_skip (by rfl) hS (fun K hK => ?_); simp only [Act.put, List.setIfInBounds_toArray, List.set_cons_zero, List.set_cons_succ]; refine hK _ ?_; clear hK K))
  refine wpSeq_end ?_
  clear hS
  by_cases hlt : W.sure < W.recs.length
  · have e := HR.out
    unfold checkW at e
    rw [if_neg (by simp [HBR.out]), if_neg (by omega), if_pos hlt] at e
    subst e
    have H := Lib.hid h3.right.right
    clear h3
    go_wp2_with fail
    go_ret
    exact ⟨rfl, H.out⟩
  rw [show decide (W.sure < W.recs.length) = false from by simpa using hlt]
  have HLT := Lib.hid hlt
  clear hlt
  have h4 := h3.alloc (.cells #[.func (.func 37) #[] #[.pointer (some ⟨q, 0, none⟩)], .func (.func 40) #[] #[.pointer (some ⟨q, 0, none⟩), .pointer (some ⟨q + 1, 0, none⟩)], .func (.func 42) #[] #[.pointer (some ⟨q, 0, none⟩)], .func (.func 43) #[] #[.pointer (some ⟨q, 0, none⟩)]] 70)
  have h5 := h4.right
  clear h3 h4
  go_wp2_with fail
  go_loopw [38] (fun t38 wr => ∃ k : Nat, k ≤ 4 ∧ t38 = .int .i64 k ∧ ∃ dk : DiskP, ckStage W b d k = some dk ∧ dk.files.length ≤ d.files.length + k ∧ Sat u wr (own q (.cells #[.pointer (some ⟨l, 0, none⟩)] 28 (0, 0)) * (own (q + 1) (.cells #[.slice ab b.length cb] 34 (0, 0)) * (isL l p W * (isD p dk * F))))) (fun t _ => 4 - (intOf t).toNat)
  case atStart => exact ⟨0, by decide, rfl, d, rfl, Nat.le_refl _, h5⟩
  case round =>
    clear h5
    obtain ⟨k, hk, rfl, dk, hst, hmk, h5⟩ := hrel
    have HST := Lib.hid hst
    clear hst
    by_cases hk4 : k < 4
    · rcases (by omega : k = 0 ∨ k = 1 ∨ k = 2 ∨ k = 3) with rfl | rfl | rfl | rfl
      · rw [show ((0 : Nat) : Int) = 0 from rfl]
        have c20 : wr.cell? ⟨q, 0, none⟩ = some (.pointer (some ⟨l, 0, none⟩)) := h5.cell 0
        have hix := idx_ck_0 q
        go_wp2_with fail
        clear hix c20
        refine wp_region_seq [(0, true), (1, true), (2, false), (3, false), (4, true)] (fun x => x.cell? ⟨q, 0, none⟩ = some (.pointer (some ⟨l, 0, none⟩))) (by kernel_rfl) (by kernel_rfl) (fun _ _ _ _ _ h => h) ?_
        simp only [pickOps, Array.getD_eq_getD_getElem?, List.getElem?_toArray, List.getElem?_cons_succ, List.getElem?_cons_zero, Option.getD_some]
        have h6 := h5.drew
        generalize wr.drew = w3 at h6 ⊢
        clear h5
        have c2 : w3.cell? ⟨q, 0, none⟩ = some (.pointer (some ⟨l, 0, none⟩)) := h6.cell 0
        repeat (first
          | (refine wpSeq_run (by rfl) c2 (fun K hK => ⟨?_, ?_, ?_⟩); rotate_left; (· (intro wS hSw; go_simp <;> with_reducible rfl)); simp only [Act.put, List.setIfInBounds_toArray, List.set_cons_zero, List.set_cons_succ]; refine hK _ ?_; clear hK K)
          | (refine wpSeq_skip (by rfl) c2 (fun K hK => ?_); simp only [Act.put, List.setIfInBounds_toArray, List.set_cons_zero, List.set_cons_succ]; refine hK _ ?_; clear hK K))
        refine wpSeq_act (by rfl) (fun K hK => ?_)
        go_simp
        refine (ck1_any u w3 (own (q + 1) (.cells #[.slice ab b.length cb] 34 (0, 0)) * F) l p q W dk (h6.eq (by ac_rfl))).mono ?_
        rintro e w4 ⟨rfl, h7⟩
        rw [show (step0 dk).1 = (ckStep W b 0 dk).1 from rfl]
        have h8 : Sat u w4 (own q (.cells #[.pointer (some ⟨l, 0, none⟩)] 28 (0, 0)) * (own (q + 1) (.cells #[.slice ab b.length cb] 34 (0, 0)) * (isL l p W * (isD p (ckStep W b 0 dk).2 * F)))) := by
          show Sat u w4 (own q (.cells #[.pointer (some ⟨l, 0, none⟩)] 28 (0, 0)) * (own (q + 1) (.cells #[.slice ab b.length cb] 34 (0, 0)) * (isL l p W * (isD p (step0 dk).2 * F))))
          exact h7.eq (by ac_rfl)
        have hxe := ckStep_err W b 0 dk
        have hxm := ckStep_many W b 0 dk
        obtain ⟨x, hx⟩ : ∃ x, ckStep W b 0 dk = x := ⟨_, rfl⟩
        rw [hx] at h8 hxe hxm ⊢
        have HX := Lib.hid hx
        clear h6 h7 hx c2
        try dsimp only
        try simp only [Act.put, List.setIfInBounds_toArray, List.set_cons_zero, List.set_cons_succ]
        refine hK _ _ (_) ((fun _ h => h)) (h8.cell 0) ?_
        clear hK K
        refine wpSeq_act (by rfl) (fun K hK => ?_)
        go_simp
        refine (lmet_any u w4 _ l p W x.1 hxe.range.1 hxe.range.2 h8.s3).mono ?_
        rintro e w5 ⟨rfl, h9⟩
        clear h8
        try dsimp only
        try simp only [Act.put, List.setIfInBounds_toArray, List.set_cons_zero, List.set_cons_succ]
        refine hK _ _ (_) ((fun _ h => h)) (h9.right.cell 0) ?_
        clear hK K
        repeat (first
          | (refine wpSeq_run (by rfl) (h9.right.cell 0) (fun K hK => ⟨?_, ?_, ?_⟩); rotate_left; (· (intro wS hSw; go_simp <;> with_reducible rfl)); simp only [Act.put, List.setIfInBounds_toArray, List.set_cons_zero, List.set_cons_succ]; refine hK _ ?_; clear hK K)
          | (refine wpSeq_skip (by rfl) (h9.right.cell 0) (fun K hK => ?_); simp only [Act.put, List.setIfInBounds_toArray, List.set_cons_zero, List.set_cons_succ]; refine hK _ ?_; clear hK K))
        refine wpSeq_end ?_
        by_cases hx0 : x.1 = 0
        · rw [hx0] at h9 ⊢
          have h10 : Sat u w5 (own q (.cells #[.pointer (some ⟨l, 0, none⟩)] 28 (0, 0)) * (own (q + 1) (.cells #[.slice ab b.length cb] 34 (0, 0)) * (isL l p W * (isD p x.2 * F)))) := h9.eq (by show isL l p W * _ = _; ac_rfl)
          have hst2 : ckStage W b d (0 + 1) = some x.2 := by
            show (match ckStage W b d 0 with | none => none | some dk => if (ckStep W b 0 dk).1 = 0 then some (ckStep W b 0 dk).2 else none) = _
            rw [HST.out]
            dsimp only
            rw [HX.out, if_pos hx0]
          have HST2 := Lib.hid hst2
          clear h9 hx0 hst2 hxe
          go_wp2_with fail
          go_roundw
          case rel =>
            exact ⟨0 + 1, by omega, by go_num, x.2, HST2.out, by omega, h10⟩
          case measure => simp [intOf]
        · have e := HR.out
          rw [check_fails HBR.out (by omega) HLT.out (by decide) HST.out (by rw [HX.out]; exact hx0), HX.out] at e
          subst e
          have hx1 : (x.1 != 0) = true := by simpa using hx0
          have H9 := Lib.hid (h9.eq (show _ = own q (.cells #[.pointer (some ⟨l, 0, none⟩)] 28 (0, 0)) * (own (q + 1) (.cells #[.slice ab b.length cb] 34 (0, 0)) * (isL l p (metW x.1 W) * (isD p x.2 * F))) by ac_rfl)).right.right
          clear h9 hx0 hxe
          go_wp2_with fail
          go_ret
          exact ⟨rfl, H9.out⟩
      · rw [show ((1 : Nat) : Int) = 1 from rfl]
        have c20 : wr.cell? ⟨q, 0, none⟩ = some (.pointer (some ⟨l, 0, none⟩)) := h5.cell 0
        have hix := idx_ck_1 q
        go_wp2_with fail
        clear hix c20
        refine wp_region_seq [(0, true), (1, true), (2, false), (3, false), (4, true)] (fun x => x.cell? ⟨q, 0, none⟩ = some (.pointer (some ⟨l, 0, none⟩))) (by kernel_rfl) (by kernel_rfl) (fun _ _ _ _ _ h => h) ?_
        simp only [pickOps, Array.getD_eq_getD_getElem?, List.getElem?_toArray, List.getElem?_cons_succ, List.getElem?_cons_zero, Option.getD_some]
        have h6 := h5.drew
        generalize wr.drew = w3 at h6 ⊢
        clear h5
        have c2 : w3.cell? ⟨q, 0, none⟩ = some (.pointer (some ⟨l, 0, none⟩)) := h6.cell 0
        repeat (first
          | (refine wpSeq_run (by rfl) c2 (fun K hK => ⟨?_, ?_, ?_⟩); rotate_left; (· (intro wS hSw; go_simp <;> with_reducible rfl)); simp only [Act.put, List.setIfInBounds_toArray, List.set_cons_zero, List.set_cons_succ]; refine hK _ ?_; clear hK K)
          | (refine wpSeq_skip (by rfl) c2 (fun K hK => ?_); simp only [Act.put, List.setIfInBounds_toArray, List.set_cons_zero, List.set_cons_succ]; refine hK _ ?_; clear hK K))
        refine wpSeq_act (by rfl) (fun K hK => ?_)
        go_simp
        refine (ck2_any u w3 F l p q (q + 1) W dk b ab cb (by omega) (by omega) HB.out h6).mono ?_
        rintro e w4 ⟨rfl, h7⟩
        rw [show (appendD dk tmpN (frameB 75 (W.gen + 1) b)).1 = (ckStep W b 1 dk).1 from rfl]
        have h8 : Sat u w4 (own q (.cells #[.pointer (some ⟨l, 0, none⟩)] 28 (0, 0)) * (own (q + 1) (.cells #[.slice ab b.length cb] 34 (0, 0)) * (isL l p W * (isD p (ckStep W b 1 dk).2 * F)))) := by
          show Sat u w4 (own q (.cells #[.pointer (some ⟨l, 0, none⟩)] 28 (0, 0)) * (own (q + 1) (.cells #[.slice ab b.length cb] 34 (0, 0)) * (isL l p W * (isD p (appendD dk tmpN (frameB 75 (W.gen + 1) b)).2 * F))))
          exact h7.eq (by ac_rfl)
        have hxe := ckStep_err W b 1 dk
        have hxm := ckStep_many W b 1 dk
        obtain ⟨x, hx⟩ : ∃ x, ckStep W b 1 dk = x := ⟨_, rfl⟩
        rw [hx] at h8 hxe hxm ⊢
        have HX := Lib.hid hx
        clear h6 h7 hx c2
        try dsimp only
        try simp only [Act.put, List.setIfInBounds_toArray, List.set_cons_zero, List.set_cons_succ]
        refine hK _ _ (_) ((fun _ h => h)) (h8.cell 0) ?_
        clear hK K
        refine wpSeq_act (by rfl) (fun K hK => ?_)
        go_simp
        refine (lmet_any u w4 _ l p W x.1 hxe.range.1 hxe.range.2 h8.s3).mono ?_
        rintro e w5 ⟨rfl, h9⟩
        clear h8
        try dsimp only
        try simp only [Act.put, List.setIfInBounds_toArray, List.set_cons_zero, List.set_cons_succ]
        refine hK _ _ (_) ((fun _ h => h)) (h9.right.cell 0) ?_
        clear hK K
        repeat (first
          | (refine wpSeq_run (by rfl) (h9.right.cell 0) (fun K hK => ⟨?_, ?_, ?_⟩); rotate_left; (· (intro wS hSw; go_simp <;> with_reducible rfl)); simp only [Act.put, List.setIfInBounds_toArray, List.set_cons_zero, List.set_cons_succ]; refine hK _ ?_; clear hK K)
          | (refine wpSeq_skip (by rfl) (h9.right.cell 0) (fun K hK => ?_); simp only [Act.put, List.setIfInBounds_toArray, List.set_cons_zero, List.set_cons_succ]; refine hK _ ?_; clear hK K))
        refine wpSeq_end ?_
        by_cases hx0 : x.1 = 0
        · rw [hx0] at h9 ⊢
          have h10 : Sat u w5 (own q (.cells #[.pointer (some ⟨l, 0, none⟩)] 28 (0, 0)) * (own (q + 1) (.cells #[.slice ab b.length cb] 34 (0, 0)) * (isL l p W * (isD p x.2 * F)))) := h9.eq (by show isL l p W * _ = _; ac_rfl)
          have hst2 : ckStage W b d (1 + 1) = some x.2 := by
            show (match ckStage W b d 1 with | none => none | some dk => if (ckStep W b 1 dk).1 = 0 then some (ckStep W b 1 dk).2 else none) = _
            rw [HST.out]
            dsimp only
            rw [HX.out, if_pos hx0]
          have HST2 := Lib.hid hst2
          clear h9 hx0 hst2 hxe
          go_wp2_with fail
          go_roundw
          case rel =>
            exact ⟨1 + 1, by omega, by go_num, x.2, HST2.out, by omega, h10⟩
          case measure => simp [intOf]
        · have e := HR.out
          rw [check_fails HBR.out (by omega) HLT.out (by decide) HST.out (by rw [HX.out]; exact hx0), HX.out] at e
          subst e
          have hx1 : (x.1 != 0) = true := by simpa using hx0
          have H9 := Lib.hid (h9.eq (show _ = own q (.cells #[.pointer (some ⟨l, 0, none⟩)] 28 (0, 0)) * (own (q + 1) (.cells #[.slice ab b.length cb] 34 (0, 0)) * (isL l p (metW x.1 W) * (isD p x.2 * F))) by ac_rfl)).right.right
          clear h9 hx0 hxe
          go_wp2_with fail
          go_ret
          exact ⟨rfl, H9.out⟩
      · rw [show ((2 : Nat) : Int) = 2 from rfl]
        have c20 : wr.cell? ⟨q, 0, none⟩ = some (.pointer (some ⟨l, 0, none⟩)) := h5.cell 0
        have hix := idx_ck_2 q
        go_wp2_with fail
        clear hix c20
        refine wp_region_seq [(0, true), (1, true), (2, false), (3, false), (4, true)] (fun x => x.cell? ⟨q, 0, none⟩ = some (.pointer (some ⟨l, 0, none⟩))) (by kernel_rfl) (by kernel_rfl) (fun _ _ _ _ _ h => h) ?_
        simp only [pickOps, Array.getD_eq_getD_getElem?, List.getElem?_toArray, List.getElem?_cons_succ, List.getElem?_cons_zero, Option.getD_some]
        have h6 := h5.drew
        generalize wr.drew = w3 at h6 ⊢
        clear h5
        have c2 : w3.cell? ⟨q, 0, none⟩ = some (.pointer (some ⟨l, 0, none⟩)) := h6.cell 0
        repeat (first
          | (refine wpSeq_run (by rfl) c2 (fun K hK => ⟨?_, ?_, ?_⟩); rotate_left; (· (intro wS hSw; go_simp <;> with_reducible rfl)); simp only [Act.put, List.setIfInBounds_toArray, List.set_cons_zero, List.set_cons_succ]; refine hK _ ?_; clear hK K)
          | (refine wpSeq_skip (by rfl) c2 (fun K hK => ?_); simp only [Act.put, List.setIfInBounds_toArray, List.set_cons_zero, List.set_cons_succ]; refine hK _ ?_; clear hK K))
        refine wpSeq_act (by rfl) (fun K hK => ?_)
        go_simp
        refine (ck3_any u w3 (own (q + 1) (.cells #[.slice ab b.length cb] 34 (0, 0)) * F) l p q W dk (h6.eq (by ac_rfl))).mono ?_
        rintro e w4 ⟨rfl, h7⟩
        rw [show (driesD dk tmpN tmpN wholeL).1 = (ckStep W b 2 dk).1 from rfl]
        have h8 : Sat u w4 (own q (.cells #[.pointer (some ⟨l, 0, none⟩)] 28 (0, 0)) * (own (q + 1) (.cells #[.slice ab b.length cb] 34 (0, 0)) * (isL l p W * (isD p (ckStep W b 2 dk).2 * F)))) := by
          show Sat u w4 (own q (.cells #[.pointer (some ⟨l, 0, none⟩)] 28 (0, 0)) * (own (q + 1) (.cells #[.slice ab b.length cb] 34 (0, 0)) * (isL l p W * (isD p (driesD dk tmpN tmpN wholeL).2 * F))))
          exact h7.eq (by ac_rfl)
        have hxe := ckStep_err W b 2 dk
        have hxm := ckStep_many W b 2 dk
        obtain ⟨x, hx⟩ : ∃ x, ckStep W b 2 dk = x := ⟨_, rfl⟩
        rw [hx] at h8 hxe hxm ⊢
        have HX := Lib.hid hx
        clear h6 h7 hx c2
        try dsimp only
        try simp only [Act.put, List.setIfInBounds_toArray, List.set_cons_zero, List.set_cons_succ]
        refine hK _ _ (_) ((fun _ h => h)) (h8.cell 0) ?_
        clear hK K
        refine wpSeq_act (by rfl) (fun K hK => ?_)
        go_simp
        refine (lmet_any u w4 _ l p W x.1 hxe.range.1 hxe.range.2 h8.s3).mono ?_
        rintro e w5 ⟨rfl, h9⟩
        clear h8
        try dsimp only
        try simp only [Act.put, List.setIfInBounds_toArray, List.set_cons_zero, List.set_cons_succ]
        refine hK _ _ (_) ((fun _ h => h)) (h9.right.cell 0) ?_
        clear hK K
        repeat (first
          | (refine wpSeq_run (by rfl) (h9.right.cell 0) (fun K hK => ⟨?_, ?_, ?_⟩); rotate_left; (· (intro wS hSw; go_simp <;> with_reducible rfl)); simp only [Act.put, List.setIfInBounds_toArray, List.set_cons_zero, List.set_cons_succ]; refine hK _ ?_; clear hK K)
          | (refine wpSeq_skip (by rfl) (h9.right.cell 0) (fun K hK => ?_); simp only [Act.put, List.setIfInBounds_toArray, List.set_cons_zero, List.set_cons_succ]; refine hK _ ?_; clear hK K))
        refine wpSeq_end ?_
        by_cases hx0 : x.1 = 0
        · rw [hx0] at h9 ⊢
          have h10 : Sat u w5 (own q (.cells #[.pointer (some ⟨l, 0, none⟩)] 28 (0, 0)) * (own (q + 1) (.cells #[.slice ab b.length cb] 34 (0, 0)) * (isL l p W * (isD p x.2 * F)))) := h9.eq (by show isL l p W * _ = _; ac_rfl)
          have hst2 : ckStage W b d (2 + 1) = some x.2 := by
            show (match ckStage W b d 2 with | none => none | some dk => if (ckStep W b 2 dk).1 = 0 then some (ckStep W b 2 dk).2 else none) = _
            rw [HST.out]
            dsimp only
            rw [HX.out, if_pos hx0]
          have HST2 := Lib.hid hst2
          clear h9 hx0 hst2 hxe
          go_wp2_with fail
          go_roundw
          case rel =>
            exact ⟨2 + 1, by omega, by go_num, x.2, HST2.out, by omega, h10⟩
          case measure => simp [intOf]
        · have e := HR.out
          rw [check_fails HBR.out (by omega) HLT.out (by decide) HST.out (by rw [HX.out]; exact hx0), HX.out] at e
          subst e
          have hx1 : (x.1 != 0) = true := by simpa using hx0
          have H9 := Lib.hid (h9.eq (show _ = own q (.cells #[.pointer (some ⟨l, 0, none⟩)] 28 (0, 0)) * (own (q + 1) (.cells #[.slice ab b.length cb] 34 (0, 0)) * (isL l p (metW x.1 W) * (isD p x.2 * F))) by ac_rfl)).right.right
          clear h9 hx0 hxe
          go_wp2_with fail
          go_ret
          exact ⟨rfl, H9.out⟩
      · rw [show ((3 : Nat) : Int) = 3 from rfl]
        have c20 : wr.cell? ⟨q, 0, none⟩ = some (.pointer (some ⟨l, 0, none⟩)) := h5.cell 0
        have hix := idx_ck_3 q
        go_wp2_with fail
        clear hix c20
        refine wp_region_seq [(0, true), (1, true), (2, false), (3, false), (4, true)] (fun x => x.cell? ⟨q, 0, none⟩ = some (.pointer (some ⟨l, 0, none⟩))) (by kernel_rfl) (by kernel_rfl) (fun _ _ _ _ _ h => h) ?_
        simp only [pickOps, Array.getD_eq_getD_getElem?, List.getElem?_toArray, List.getElem?_cons_succ, List.getElem?_cons_zero, Option.getD_some]
        have h6 := h5.drew
        generalize wr.drew = w3 at h6 ⊢
        clear h5
        have c2 : w3.cell? ⟨q, 0, none⟩ = some (.pointer (some ⟨l, 0, none⟩)) := h6.cell 0
        repeat (first
          | (refine wpSeq_run (by rfl) c2 (fun K hK => ⟨?_, ?_, ?_⟩); rotate_left; (· (intro wS hSw; go_simp <;> with_reducible rfl)); simp only [Act.put, List.setIfInBounds_toArray, List.set_cons_zero, List.set_cons_succ]; refine hK _ ?_; clear hK K)
          | (refine wpSeq_skip (by rfl) c2 (fun K hK => ?_); simp only [Act.put, List.setIfInBounds_toArray, List.set_cons_zero, List.set_cons_succ]; refine hK _ ?_; clear hK K))
        refine wpSeq_act (by rfl) (fun K hK => ?_)
        go_simp
        refine (ck4_any u w3 (own (q + 1) (.cells #[.slice ab b.length cb] 34 (0, 0)) * F) l p q W dk (h6.eq (by ac_rfl))).mono ?_
        rintro e w4 ⟨rfl, h7⟩
        rw [show (driesD dk tmpN ckN wholeL).1 = (ckStep W b 3 dk).1 from rfl]
        have h8 : Sat u w4 (own q (.cells #[.pointer (some ⟨l, 0, none⟩)] 28 (0, 0)) * (own (q + 1) (.cells #[.slice ab b.length cb] 34 (0, 0)) * (isL l p W * (isD p (ckStep W b 3 dk).2 * F)))) := by
          show Sat u w4 (own q (.cells #[.pointer (some ⟨l, 0, none⟩)] 28 (0, 0)) * (own (q + 1) (.cells #[.slice ab b.length cb] 34 (0, 0)) * (isL l p W * (isD p (driesD dk tmpN ckN wholeL).2 * F))))
          exact h7.eq (by ac_rfl)
        have hxe := ckStep_err W b 3 dk
        have hxm := ckStep_many W b 3 dk
        obtain ⟨x, hx⟩ : ∃ x, ckStep W b 3 dk = x := ⟨_, rfl⟩
        rw [hx] at h8 hxe hxm ⊢
        have HX := Lib.hid hx
        clear h6 h7 hx c2
        try dsimp only
        try simp only [Act.put, List.setIfInBounds_toArray, List.set_cons_zero, List.set_cons_succ]
        refine hK _ _ (_) ((fun _ h => h)) (h8.cell 0) ?_
        clear hK K
        refine wpSeq_act (by rfl) (fun K hK => ?_)
        go_simp
        refine (lmet_any u w4 _ l p W x.1 hxe.range.1 hxe.range.2 h8.s3).mono ?_
        rintro e w5 ⟨rfl, h9⟩
        clear h8
        try dsimp only
        try simp only [Act.put, List.setIfInBounds_toArray, List.set_cons_zero, List.set_cons_succ]
        refine hK _ _ (_) ((fun _ h => h)) (h9.right.cell 0) ?_
        clear hK K
        repeat (first
          | (refine wpSeq_run (by rfl) (h9.right.cell 0) (fun K hK => ⟨?_, ?_, ?_⟩); rotate_left; (· (intro wS hSw; go_simp <;> with_reducible rfl)); simp only [Act.put, List.setIfInBounds_toArray, List.set_cons_zero, List.set_cons_succ]; refine hK _ ?_; clear hK K)
          | (refine wpSeq_skip (by rfl) (h9.right.cell 0) (fun K hK => ?_); simp only [Act.put, List.setIfInBounds_toArray, List.set_cons_zero, List.set_cons_succ]; refine hK _ ?_; clear hK K))
        refine wpSeq_end ?_
        by_cases hx0 : x.1 = 0
        · rw [hx0] at h9 ⊢
          have h10 : Sat u w5 (own q (.cells #[.pointer (some ⟨l, 0, none⟩)] 28 (0, 0)) * (own (q + 1) (.cells #[.slice ab b.length cb] 34 (0, 0)) * (isL l p W * (isD p x.2 * F)))) := h9.eq (by show isL l p W * _ = _; ac_rfl)
          have hst2 : ckStage W b d (3 + 1) = some x.2 := by
            show (match ckStage W b d 3 with | none => none | some dk => if (ckStep W b 3 dk).1 = 0 then some (ckStep W b 3 dk).2 else none) = _
            rw [HST.out]
            dsimp only
            rw [HX.out, if_pos hx0]
          have HST2 := Lib.hid hst2
          clear h9 hx0 hst2 hxe
          go_wp2_with fail
          go_roundw
          case rel =>
            exact ⟨3 + 1, by omega, by go_num, x.2, HST2.out, by omega, h10⟩
          case measure => simp [intOf]
        · have e := HR.out
          rw [check_fails HBR.out (by omega) HLT.out (by decide) HST.out (by rw [HX.out]; exact hx0), HX.out] at e
          subst e
          have hx1 : (x.1 != 0) = true := by simpa using hx0
          have H9 := Lib.hid (h9.eq (show _ = own q (.cells #[.pointer (some ⟨l, 0, none⟩)] 28 (0, 0)) * (own (q + 1) (.cells #[.slice ab b.length cb] 34 (0, 0)) * (isL l p (metW x.1 W) * (isD p x.2 * F))) by ac_rfl)).right.right
          clear h9 hx0 hxe
          go_wp2_with fail
          go_ret
          exact ⟨rfl, H9.out⟩
    · have e : k = 4 := by omega
      subst e
      rw [show ((4 : Nat) : Int) = 4 from rfl]
      have c20 : wr.cell? ⟨q, 0, none⟩ = some (.pointer (some ⟨l, 0, none⟩)) := h5.cell 0
      go_wp2_with fail
      obtain ⟨_, _, k1, _, _, _, _, _⟩ := isL_cells h5.right.right
      refine (lname_any wr l W.gen hg k1).mono ?_
      rintro e w3 ⟨rfl, rfl⟩
      dsimp only
      have hfin := check_done HBR.out (by omega) HLT.out HST.out
      have e := HR.out
      rw [hfin] at e
      have HR2 := Lib.hid e
      obtain ⟨ok6, a1, c1, a2, c2, R6, hR6, h6⟩ := isL_iff.1 h5.s3
      have OK6 := Lib.hid ok6
      have f1 := h6.free 1
      have z1 : IntKind.i64.wrap ((W.gen : Int) + 1) = (W.gen : Int) + 1 := by rw [IntKind.wrap_i64]; omega
      have h7 : Sat u (wr.setCell ⟨l, 1, none⟩ (.int .i64 ((W.gen : Int) + 1))) (own l (.cells #[.pointer (some ⟨p, 0, none⟩), .int .i64 ((W.gen : Int) + 1), .slice a1 W.state.length c1, .slice a2 R6.length c2, .int .i64 W.sure, .int .i64 W.size, .int .i64 W.broken] 56 (0, 0)) * _) := h6.setCell 1 (.int .i64 ((W.gen : Int) + 1))
      clear h5 h6 hfin e ok6 hR6
      go_wp2_with fail
      refine wp_region_seq [(0, true), (1, true), (2, true), (3, true), (4, true), (5, false), (6, true), (7, true), (8, false), (9, true), (10, true), (11, false), (12, true), (13, true), (14, false), (15, true), (16, true), (17, false)] (fun x => x.cell? ⟨q, 0, none⟩ = some (.pointer (some ⟨l, 0, none⟩)) ∧ x.cell? ⟨q + 1, 0, none⟩ = some (.slice ab b.length cb)) (by kernel_rfl) (by kernel_rfl) (fun _ _ _ _ _ h => h) ?_
      simp only [pickOps, Array.getD_eq_getD_getElem?, List.getElem?_toArray, List.getElem?_cons_succ, List.getElem?_cons_zero, Option.getD_some]
      have h8 := h7.drew
      have hS : ((wr.setCell ⟨l, 1, none⟩ (.int .i64 ((W.gen : Int) + 1))).drew).cell? ⟨q, 0, none⟩ = some (.pointer (some ⟨l, 0, none⟩)) ∧ ((wr.setCell ⟨l, 1, none⟩ (.int .i64 ((W.gen : Int) + 1))).drew).cell? ⟨q + 1, 0, none⟩ = some (.slice ab b.length cb) := ⟨h8.right.right.right.right.cell 0, h8.right.right.right.right.right.cell 0⟩
      generalize (wr.setCell ⟨l, 1, none⟩ (.int .i64 ((W.gen : Int) + 1))).drew = w3 at h8 hS ⊢
      clear h7 f1 c20 k1
      repeat (first
        | (refine wpSeq_run (by rfl) hS (fun K hK => ⟨?_, ?_, ?_⟩); rotate_left; (· (intro wS hSw; have d1 := hSw.1; have d2 := hSw.2; go_simp <;> with_reducible rfl)); simp only [Act.put, List.setIfInBounds_toArray, List.set_cons_zero, List.set_cons_succ]; refine hK _ ?_; clear hK K)
        | (refine wpSeq_skip (by rfl) hS (fun K hK => ?_); simp only [Act.put, List.setIfInBounds_toArray, List.set_cons_zero, List.set_cons_succ]; refine hK _ ?_; clear hK K))
      refine wpSeq_act (by rfl) (fun K hK => ?_)
      go_simp
      have hbb := HB.out w3 h8.right.right.right.right.right.right.right
      refine (clone_any u w3 _ _ b h8 hbb (by omega)).mono ?_
      rintro e w4 ⟨a8, c8, rfl, h9⟩
      have h10 := (Sat.roB_own h9).s2
      clear h8 hS hbb h9
      try dsimp only
      try simp only [Act.put, List.setIfInBounds_toArray, List.set_cons_zero, List.set_cons_succ]
      refine hK _ _ (_) ((fun _ h => h)) ⟨h10.right.right.right.right.right.cell 0, h10.right.right.right.right.right.right.cell 0⟩ ?_
      clear hK K
      repeat (first
        | (refine wpSeq_run (by rfl) ⟨h10.right.right.right.right.right.cell 0, h10.right.right.right.right.right.right.cell 0⟩ (fun K hK => ⟨?_, ?_, ?_⟩); rotate_left; (· (intro wS hSw; go_simp <;> with_reducible rfl)); simp only [Act.put, List.setIfInBounds_toArray, List.set_cons_zero, List.set_cons_succ]; refine hK _ ?_; clear hK K)
        | (refine wpSeq_skip (by rfl) ⟨h10.right.right.right.right.right.cell 0, h10.right.right.right.right.right.right.cell 0⟩ (fun K hK => ?_); simp only [Act.put, List.setIfInBounds_toArray, List.set_cons_zero, List.set_cons_succ]; refine hK _ ?_; clear hK K))
      have q2 : w4.cell? ⟨l, 2, none⟩ = some (.slice a1 W.state.length c1) := h10.cell 2
      have g2 := h10.free 2
      refine wpSeq_act (by rfl) (fun K hK => ?_)
      go_simp
      have h11 : Sat u (w4.setCell ⟨l, 2, none⟩ (.slice a8 b.length c8)) (own l (.cells #[.pointer (some ⟨p, 0, none⟩), .int .i64 ((W.gen : Int) + 1), .slice a8 b.length c8, .slice a2 R6.length c2, .int .i64 W.sure, .int .i64 W.size, .int .i64 W.broken] 56 (0, 0)) * _) := h10.setCell 2 (.slice a8 b.length c8)
      try dsimp only
      try simp only [Act.put, List.setIfInBounds_toArray, List.set_cons_zero, List.set_cons_succ]
      refine hK _ _ (_) ((fun _ h => h)) ⟨h11.right.right.right.right.right.cell 0, h11.right.right.right.right.right.right.cell 0⟩ ?_
      clear hK K
      generalize w4.setCell ⟨l, 2, none⟩ (.slice a8 b.length c8) = w5 at h11 ⊢
      clear h10 q2 g2
      repeat (first
        | (refine wpSeq_run (by rfl) ⟨h11.right.right.right.right.right.cell 0, h11.right.right.right.right.right.right.cell 0⟩ (fun K hK => ⟨?_, ?_, ?_⟩); rotate_left; (· (intro wS hSw; go_simp <;> with_reducible rfl)); simp only [Act.put, List.setIfInBounds_toArray, List.set_cons_zero, List.set_cons_succ]; refine hK _ ?_; clear hK K)
        | (refine wpSeq_skip (by rfl) ⟨h11.right.right.right.right.right.cell 0, h11.right.right.right.right.right.right.cell 0⟩ (fun K hK => ?_); simp only [Act.put, List.setIfInBounds_toArray, List.set_cons_zero, List.set_cons_succ]; refine hK _ ?_; clear hK K))
      have q2 : w5.cell? ⟨l, 3, none⟩ = some (.slice a2 R6.length c2) := h11.cell 3
      have g2 := h11.free 3
      refine wpSeq_act (by rfl) (fun K hK => ?_)
      go_simp
      have h12 : Sat u (w5.setCell ⟨l, 3, none⟩ (.slice none 0 0)) (own l (.cells #[.pointer (some ⟨p, 0, none⟩), .int .i64 ((W.gen : Int) + 1), .slice a8 b.length c8, .slice none 0 0, .int .i64 W.sure, .int .i64 W.size, .int .i64 W.broken] 56 (0, 0)) * _) := h11.setCell 3 (.slice none 0 0)
      try dsimp only
      try simp only [Act.put, List.setIfInBounds_toArray, List.set_cons_zero, List.set_cons_succ]
      refine hK _ _ (_) ((fun _ h => h)) ⟨h12.right.right.right.right.right.cell 0, h12.right.right.right.right.right.right.cell 0⟩ ?_
      clear hK K
      generalize w5.setCell ⟨l, 3, none⟩ (.slice none 0 0) = w6 at h12 ⊢
      clear h11 q2 g2
      repeat (first
        | (refine wpSeq_run (by rfl) ⟨h12.right.right.right.right.right.cell 0, h12.right.right.right.right.right.right.cell 0⟩ (fun K hK => ⟨?_, ?_, ?_⟩); rotate_left; (· (intro wS hSw; go_simp <;> with_reducible rfl)); simp only [Act.put, List.setIfInBounds_toArray, List.set_cons_zero, List.set_cons_succ]; refine hK _ ?_; clear hK K)
        | (refine wpSeq_skip (by rfl) ⟨h12.right.right.right.right.right.cell 0, h12.right.right.right.right.right.right.cell 0⟩ (fun K hK => ?_); simp only [Act.put, List.setIfInBounds_toArray, List.set_cons_zero, List.set_cons_succ]; refine hK _ ?_; clear hK K))
      have q2 : w6.cell? ⟨l, 4, none⟩ = some (.int .i64 W.sure) := h12.cell 4
      have g2 := h12.free 4
      refine wpSeq_act (by rfl) (fun K hK => ?_)
      go_simp
      have h13 : Sat u (w6.setCell ⟨l, 4, none⟩ (.int .i64 0)) (own l (.cells #[.pointer (some ⟨p, 0, none⟩), .int .i64 ((W.gen : Int) + 1), .slice a8 b.length c8, .slice none 0 0, .int .i64 0, .int .i64 W.size, .int .i64 W.broken] 56 (0, 0)) * _) := h12.setCell 4 (.int .i64 0)
      try dsimp only
      try simp only [Act.put, List.setIfInBounds_toArray, List.set_cons_zero, List.set_cons_succ]
      refine hK _ _ (_) ((fun _ h => h)) ⟨h13.right.right.right.right.right.cell 0, h13.right.right.right.right.right.right.cell 0⟩ ?_
      clear hK K
      generalize w6.setCell ⟨l, 4, none⟩ (.int .i64 0) = w7 at h13 ⊢
      clear h12 q2 g2
      repeat (first
        | (refine wpSeq_run (by rfl) ⟨h13.right.right.right.right.right.cell 0, h13.right.right.right.right.right.right.cell 0⟩ (fun K hK => ⟨?_, ?_, ?_⟩); rotate_left; (· (intro wS hSw; go_simp <;> with_reducible rfl)); simp only [Act.put, List.setIfInBounds_toArray, List.set_cons_zero, List.set_cons_succ]; refine hK _ ?_; clear hK K)
        | (refine wpSeq_skip (by rfl) ⟨h13.right.right.right.right.right.cell 0, h13.right.right.right.right.right.right.cell 0⟩ (fun K hK => ?_); simp only [Act.put, List.setIfInBounds_toArray, List.set_cons_zero, List.set_cons_succ]; refine hK _ ?_; clear hK K))
      have q2 : w7.cell? ⟨l, 5, none⟩ = some (.int .i64 W.size) := h13.cell 5
      have g2 := h13.free 5
      refine wpSeq_act (by rfl) (fun K hK => ?_)
      go_simp
      have h14 : Sat u (w7.setCell ⟨l, 5, none⟩ (.int .i64 0)) (own l (.cells #[.pointer (some ⟨p, 0, none⟩), .int .i64 ((W.gen : Int) + 1), .slice a8 b.length c8, .slice none 0 0, .int .i64 0, .int .i64 0, .int .i64 W.broken] 56 (0, 0)) * _) := h13.setCell 5 (.int .i64 0)
      try dsimp only
      try simp only [Act.put, List.setIfInBounds_toArray, List.set_cons_zero, List.set_cons_succ]
      refine hK _ _ (_) ((fun _ h => h)) ⟨h14.right.right.right.right.right.cell 0, h14.right.right.right.right.right.right.cell 0⟩ ?_
      clear hK K
      generalize w7.setCell ⟨l, 5, none⟩ (.int .i64 0) = w8 at h14 ⊢
      clear h13 q2 g2
      refine wpSeq_end ?_
      obtain ⟨W1, hW1⟩ : ∃ W1 : WalP, W1 = ⟨W.gen + 1, b, [], 0, 0, 0⟩ := ⟨_, rfl⟩
      have h15 : Sat u w8 (isL l p W1 * (isD p dk * (own q (.cells #[.pointer (some ⟨l, 0, none⟩)] 28 (0, 0)) * (own (q + 1) (.cells #[.slice ab b.length cb] 34 (0, 0)) * F)))) := by
        subst hW1
        have h16 := h14
        rw [HBR.out] at h16
        have h17 := isL_anew (sv := .slice a8 b.length c8) (X := own q (.cells #[.pointer (some ⟨l, 0, none⟩)] 28 (0, 0)) * (own (q + 1) (.cells #[.slice ab b.length cb] 34 (0, 0)) * (isD p dk * F))) (W := ⟨W.gen + 1, b, [], 0, 0, 0⟩) ⟨hg99, (by show 0 ≤ _; omega), (by show 0 ≤ _; omega), (by show 0 ≤ _; omega), hbl, (fun y hy => by cases hy), (by show (-9223372036854775808 : Int) ≤ 0; decide), (by show (0 : Int) ≤ _; decide)⟩ rfl h16
        exact h17.eq (by ac_rfl)
      have c20 : w8.cell? ⟨q, 0, none⟩ = some (.pointer (some ⟨l, 0, none⟩)) := h15.right.right.cell 0
      rw [← hW1] at HR2
      have HW1 := Lib.hid hW1
      clear h14 hW1
      go_wp2_with fail
      refine (lthere_any u w8 _ l p W1 dk (nameW W.gen) (by have := nameW_len W.gen; omega) h15).mono ?_
      rintro e w9 ⟨rfl, h16⟩
      dsimp only
      clear h15 c20
      by_cases hx : (readD dk (nameW W.gen)).2 = 0
      · rw [show decide ((readD dk (nameW W.gen)).2 = 0) = true from by simpa using hx]
        have e := HR2.out
        rw [if_pos hx] at e
        have HR3 := Lib.hid e
        clear hx e HR2
        go_wp2_with fail
        refine wp_region_seq [(0, true), (1, true), (2, true), (3, true), (4, true), (5, true), (6, false), (7, false), (8, true)] (fun x => x.cell? ⟨q, 0, none⟩ = some (.pointer (some ⟨l, 0, none⟩)) ∧ x.cell? ⟨l, 0, none⟩ = some (.pointer (some ⟨p, 0, none⟩))) (by kernel_rfl) (by kernel_rfl) (fun _ _ _ _ _ h => h) ?_
        simp only [pickOps, Array.getD_eq_getD_getElem?, List.getElem?_toArray, List.getElem?_cons_succ, List.getElem?_cons_zero, Option.getD_some]
        have h17 := h16.drew
        generalize w9.drew = w10 at h17 ⊢
        clear h16
        have hS : ∀ x (V : WalP) (e : DiskP), Sat u x (isL l p V * (isD p e * (own q (.cells #[.pointer (some ⟨l, 0, none⟩)] 28 (0, 0)) * (own (q + 1) (.cells #[.slice ab b.length cb] 34 (0, 0)) * F)))) → x.cell? ⟨q, 0, none⟩ = some (.pointer (some ⟨l, 0, none⟩)) ∧ x.cell? ⟨l, 0, none⟩ = some (.pointer (some ⟨p, 0, none⟩)) := fun x V e h => by
          obtain ⟨_, k0, _, _, _, _, _, _⟩ := isL_cells h
          exact ⟨h.right.right.cell 0, k0⟩
        repeat (first
          | (refine wpSeq_run (by rfl) (hS _ _ _ h17) (fun K hK => ⟨?_, ?_, ?_⟩); rotate_left; (· (intro wS hSw; have d1 := hSw.1; have d2 := hSw.2; go_simp <;> with_reducible rfl)); simp only [Act.put, List.setIfInBounds_toArray, List.set_cons_zero, List.set_cons_succ]; refine hK _ ?_; clear hK K)
          | (refine wpSeq_skip (by rfl) (hS _ _ _ h17) (fun K hK => ?_); simp only [Act.put, List.setIfInBounds_toArray, List.set_cons_zero, List.set_cons_succ]; refine hK _ ?_; clear hK K))
        refine wpSeq_act (by rfl) (fun K hK => ?_)
        go_simp
        refine (dremove_any u w10 _ p dk (nameW W.gen) (by have := nameW_len W.gen; omega) h17.s2).mono ?_
        rintro e w11 ⟨rfl, h18⟩
        have hxe := remove_err dk (nameW W.gen)
        have e2 := HR3.out
        obtain ⟨x, hx⟩ : ∃ x, removeD dk (nameW W.gen) = x := ⟨_, rfl⟩
        rw [hx] at h18 hxe e2 ⊢
        have HR4 := Lib.hid e2
        clear HR3 e2 hx h17
        try dsimp only
        try simp only [Act.put, List.setIfInBounds_toArray, List.set_cons_zero, List.set_cons_succ]
        refine hK _ _ (_) ((fun _ h => h)) (hS _ _ _ h18.s2) ?_
        clear hK K
        refine wpSeq_act (by rfl) (fun K hK => ?_)
        go_simp
        refine (lmet_any u w11 _ l p W1 x.1 hxe.range.1 hxe.range.2 h18.s2).mono ?_
        rintro e w12 ⟨rfl, h19⟩
        clear h18
        try dsimp only
        try simp only [Act.put, List.setIfInBounds_toArray, List.set_cons_zero, List.set_cons_succ]
        refine hK _ _ (_) ((fun _ h => h)) (hS _ _ _ h19) ?_
        clear hK K
        repeat (first
          | (refine wpSeq_run (by rfl) (hS _ _ _ h19) (fun K hK => ⟨?_, ?_, ?_⟩); rotate_left; (· (intro wS hSw; go_simp <;> with_reducible rfl)); simp only [Act.put, List.setIfInBounds_toArray, List.set_cons_zero, List.set_cons_succ]; refine hK _ ?_; clear hK K)
          | (refine wpSeq_skip (by rfl) (hS _ _ _ h19) (fun K hK => ?_); simp only [Act.put, List.setIfInBounds_toArray, List.set_cons_zero, List.set_cons_succ]; refine hK _ ?_; clear hK K))
        refine wpSeq_end ?_
        have e := HR4.out
        subst e
        have H19 := Lib.hid (h19.eq (show _ = own q (.cells #[.pointer (some ⟨l, 0, none⟩)] 28 (0, 0)) * (own (q + 1) (.cells #[.slice ab b.length cb] 34 (0, 0)) * (isL l p (metW x.1 W1) * (isD p x.2 * F))) by ac_rfl)).right.right
        clear h19 hS hxe
        go_wp2_with fail
        go_ret
        exact ⟨rfl, H19.out⟩
      · rw [show decide ((readD dk (nameW W.gen)).2 = 0) = false from by simpa using hx]
        have e := HR2.out
        rw [if_neg hx] at e
        subst e
        have H16 := Lib.hid (h16.eq (show _ = own q (.cells #[.pointer (some ⟨l, 0, none⟩)] 28 (0, 0)) * (own (q + 1) (.cells #[.slice ab b.length cb] 34 (0, 0)) * (isL l p W1 * (isD p dk * F))) by ac_rfl)).right.right
        clear hx h16 HR2
        go_wp2_with fail
        go_ret
        exact ⟨rfl, H16.out⟩
end
end Go.Proofs.YtlfmkiclaijokaaGreatDoor
