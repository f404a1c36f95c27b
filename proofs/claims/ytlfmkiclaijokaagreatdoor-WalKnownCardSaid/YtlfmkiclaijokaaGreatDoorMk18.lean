/- wal: Record, Commit. wal: Append. wal: tidy. wal: the steps of a Checkpoint. -/
import Derived.Test.YtlfmkiclaijokaaGreatDoorMk16
import Derived.Test.YtlfmkiclaijokaaGreatDoorMk17
namespace Go.Proofs.YtlfmkiclaijokaaGreatDoor
open Go.RowKit
set_option linter.unusedVariables false

section
variable (u w : World) (F : HProp) (l p : Nat) (W : WalP)

theorem lrecord_no (i : Int) (hi : i < 0 ∨ W.recs.length ≤ i) (hs : Sat u w (isL l p W * F)) :
    Calls Tryz.prog 19 #[.pointer (some ⟨l, 0, none⟩), .int .i64 i] w fun e w' => e = .returned (.tuple #[.slice none 0 0, .bool false]) ∧ w = w' := by
  obtain ⟨_, _, _, _, ⟨a, c, c3⟩, _, _, _⟩ := isL_cells hs
  by_cases h : i < 0
  · go_enter Tryz.func19, Tryz.ntmps19
    go_wp2_with fail
    go_ret2
    exact ⟨rfl, rfl⟩
  · have h2 : (W.recs.length : Int) ≤ i := by omega
    go_enter Tryz.func19, Tryz.ntmps19
    go_wp2_with fail
    go_ret2
    exact ⟨rfl, rfl⟩

theorem lrecord_yes (k : Nat) (b : Bs) (hb : W.recs[k]? = some b) (hs : Sat u w (isL l p W * F)) :
    Calls Tryz.prog 19 #[.pointer (some ⟨l, 0, none⟩), .int .i64 k] w fun e w' => ∃ a c, e = .returned (.tuple #[.slice a b.length c, .bool true]) ∧ Sat u w' (ownB (.slice a b.length c) b * (isL l p W * F)) := by
  obtain ⟨ok, a1, c1, a2, c2, R, hR, h3⟩ := isL_iff.1 hs
  have hbl := ok.recs b (List.mem_of_getElem? hb)
  rw [← hR, List.getElem?_map] at hb
  obtain ⟨x, hx, rfl⟩ := Option.map_eq_some_iff.1 hb
  have hk : k < R.length := (List.getElem?_eq_some_iff.1 hx).1
  have hby := roR_at (k := k) h3.right.right.right hx
  obtain ⟨ab, cb, hv, _, _⟩ := RowAt.len hby
  rcases h3.right.right.row_at with ⟨hz, h0, _⟩ | ⟨ad, c', hz, _, _, hcell⟩
  · omega
  cases hz
  have e0 := hcell k x.2 (by rw [List.getElem?_map, hx]; rfl)
  rw [hv] at e0 hby
  have cc3 : w.cell? ⟨l, 3, none⟩ = some (.slice (some ad) R.length c2) := h3.cell 3
  have y1 : (k : Int) < R.length := by omega
  clear hb hx hR h3 hcell hv
  go_enter Tryz.func19, Tryz.ntmps19
  go_wp2_with fail
  refine (clone_any u w _ _ x.1 hs hby (by omega)).mono ?_
  rintro e w1 ⟨a3, c3, rfl, h4⟩
  dsimp only
  have H4 := Lib.hid h4
  clear h4 hs hby e0 cc3
  go_wp2_with fail
  go_ret2
  exact ⟨a3, c3, rfl, H4.out⟩

set_option maxRecDepth 100000 in
set_option maxHeartbeats 2000000 in
theorem lcommit_any (d : DiskP) (hs : Sat u w (isL l p W * (isD p d * F))) :
    Calls Tryz.prog 10 #[.pointer (some ⟨l, 0, none⟩)] w fun e w' => e = .returned (.int .i64 (commitW d W).1) ∧ Sat u w' (isL l p (commitW d W).2.1 * (isD p (commitW d W).2.2 * F)) := by
  have hR : commitW d W = if W.broken ≠ 0 then (W.broken, W, d) else if W.sure = W.recs.length then (0, W, d) else
      if (driesD d (nameW W.gen) (nameW W.gen) wholeL).1 = 0 then (0, { W with sure := W.recs.length }, (driesD d (nameW W.gen) (nameW W.gen) wholeL).2) else ((driesD d (nameW W.gen) (nameW W.gen) wholeL).1, metW (driesD d (nameW W.gen) (nameW W.gen) wholeL).1 W, (driesD d (nameW W.gen) (nameW W.gen) wholeL).2) := rfl
  generalize commitW d W = R at hR
  have HR := Lib.hid hR
  obtain ⟨ok, k0, k1, _, ⟨a3, c3, k3⟩, k4, _, k6⟩ := isL_cells hs
  have OK := Lib.hid ok
  have hg := ok.gen
  have hsu := ok.sure
  have hmany := ok.many
  clear hR ok
  go_enter Tryz.func10, Tryz.ntmps10
  go_wp2_with fail
  refine (lbroken_any u w _ l p W hs).mono ?_
  rintro e w1 ⟨rfl, rfl⟩
  dsimp only
  by_cases hb : W.broken = 0
  case neg =>
    have e := HR.out
    rw [if_pos hb] at e
    subst e
    have hb2 : (W.broken != 0) = true := by simpa using hb
    have H := Lib.hid hs
    clear hs k0 k1 k3 k4 k6
    go_wp2_with fail
    go_ret
    exact ⟨rfl, H.out⟩
  rw [hb]
  have HB := Lib.hid hb
  clear hb k6
  go_wp2_with fail
  refine wp_region_seq [(0, true), (1, true), (2, true), (3, true), (4, true), (5, true), (6, true), (7, true), (8, true), (9, true), (10, true)] (fun x => Sat u x (isL l p W * (isD p d * F)) ∧ x.cell? ⟨l, 3, none⟩ = some (.slice a3 W.recs.length c3) ∧ x.cell? ⟨l, 4, none⟩ = some (.int .i64 W.sure)) (by kernel_rfl) (by kernel_rfl) (fun _ _ _ _ _ h => h) ?_
  simp only [pickOps, Array.getD_eq_getD_getElem?, List.getElem?_toArray, List.getElem?_cons_succ, List.getElem?_cons_zero, Option.getD_some]
  have h1 := hs.drew
  have h1c : w.drew.cell? ⟨l, 3, none⟩ = some (.slice a3 W.recs.length c3) ∧ w.drew.cell? ⟨l, 4, none⟩ = some (.int .i64 W.sure) := ⟨k3, k4⟩
  generalize w.drew = w1 at h1 h1c ⊢
  clear hs k0 k1 k3 k4
  repeat (first
    | (refine wpSeq_run (by rfl) ⟨h1, h1c⟩ (fun K hK => ⟨?_, ?_, ?_⟩); rotate_left; (· (intro wS hSw; have d3 := hSw.2.1; have d4 := hSw.2.2; go_simp <;> with_reducible rfl)); simp only [Act.put, List.setIfInBounds_toArray, List.set_cons_zero, List.set_cons_succ]; refine hK _ ?_; clear hK K)
    | (refine wpSeq_skip (by rfl) ⟨h1, h1c⟩ (fun K hK => ?_); simp only [Act.put, List.setIfInBounds_toArray, List.set_cons_zero, List.set_cons_succ]; refine hK _ ?_; clear hK K))
  refine wpSeq_end ?_
  by_cases hq : W.sure = W.recs.length
  · have e := HR.out
    rw [if_neg (by simp [HB.out]), if_pos hq] at e
    subst e
    have H := Lib.hid h1
    have hq2 : ((W.sure : Int) == (W.recs.length : Int)) = true := by rw [hq]; simp
    clear h1 h1c
    go_wp2_with fail
    go_ret
    exact ⟨rfl, H.out⟩
  have hq2 : ((W.sure : Int) == (W.recs.length : Int)) = false := by rw [beq_eq_false_iff_ne]; omega
  have e := HR.out
  rw [if_neg (by simp [HB.out]), if_neg hq] at e
  have HR2 := Lib.hid e
  have HQ := Lib.hid hq
  clear e HR hq h1c
  rw [hq2]
  clear hq2
  go_wp2_with fail
  refine wp_region_seq [(0, true), (1, true), (2, true), (3, true), (4, true), (5, true), (6, false), (7, false), (8, false), (9, true)] (fun x => x.cell? ⟨l, 0, none⟩ = some (.pointer (some ⟨p, 0, none⟩))) (by kernel_rfl) (by kernel_rfl) (fun _ _ _ _ _ h => h) ?_
  simp only [pickOps, Array.getD_eq_getD_getElem?, List.getElem?_toArray, List.getElem?_cons_succ, List.getElem?_cons_zero, Option.getD_some]
  have h2 := h1.drew
  generalize w1.drew = w2 at h2 ⊢
  clear h1
  obtain ⟨_, k0, k1, _, _, _, _, _⟩ := isL_cells h2
  repeat (first
    | (refine wpSeq_run (by rfl) k0 (fun K hK => ⟨?_, ?_, ?_⟩); rotate_left; (· (intro wS hSw; go_simp <;> with_reducible rfl)); simp only [Act.put, List.setIfInBounds_toArray, List.set_cons_zero, List.set_cons_succ]; refine hK _ ?_; clear hK K)
    | (refine wpSeq_skip (by rfl) k0 (fun K hK => ?_); simp only [Act.put, List.setIfInBounds_toArray, List.set_cons_zero, List.set_cons_succ]; refine hK _ ?_; clear hK K))
  refine wpSeq_act (by rfl) (fun K hK => ?_)
  go_simp
  refine (lname_any w2 l W.gen hg k1).mono ?_
  rintro e w3 ⟨rfl, rfl⟩
  try dsimp only
  try simp only [Act.put, List.setIfInBounds_toArray, List.set_cons_zero, List.set_cons_succ]
  refine hK _ _ (_) ((fun _ h => h)) k0 ?_
  clear hK K
  refine wpSeq_act (by rfl) (fun K hK => ?_)
  go_simp
  refine (dsync_any u w2 _ p d (nameW W.gen) (by have := nameW_len W.gen; omega) h2.s2).mono ?_
  rintro e w3 ⟨rfl, h3⟩
  have hx := dries_err d (nameW W.gen) (nameW W.gen) wholeL whole_err
  obtain ⟨x, hxe⟩ : ∃ x, driesD d (nameW W.gen) (nameW W.gen) wholeL = x := ⟨_, rfl⟩
  rw [hxe] at h3 hx ⊢
  have e2 := HR2.out
  rw [hxe] at e2
  have HR3 := Lib.hid e2
  clear HR2 e2 hxe h2 k0 k1
  have h4 := h3.s2
  obtain ⟨_, k0, _, _, _, _, _, _⟩ := isL_cells h4
  try dsimp only
  try simp only [Act.put, List.setIfInBounds_toArray, List.set_cons_zero, List.set_cons_succ]
  refine hK _ _ (_) ((fun _ h => h)) k0 ?_
  clear hK K
  refine wpSeq_act (by rfl) (fun K hK => ?_)
  go_simp
  refine (lmet_any u w3 _ l p W x.1 hx.range.1 hx.range.2 h4).mono ?_
  rintro e w4 ⟨rfl, h5⟩
  obtain ⟨ok5, k0, _, _, ⟨a5, c5, k3⟩, k4, _, _⟩ := isL_cells h5
  clear h3 h4
  try dsimp only
  try simp only [Act.put, List.setIfInBounds_toArray, List.set_cons_zero, List.set_cons_succ]
  refine hK _ _ (_) ((fun _ h => h)) k0 ?_
  clear hK K
  repeat (first
    | (refine wpSeq_run (by rfl) k0 (fun K hK => ⟨?_, ?_, ?_⟩); rotate_left; (· (intro wS hSw; go_simp <;> with_reducible rfl)); simp only [Act.put, List.setIfInBounds_toArray, List.set_cons_zero, List.set_cons_succ]; refine hK _ ?_; clear hK K)
    | (refine wpSeq_skip (by rfl) k0 (fun K hK => ?_); simp only [Act.put, List.setIfInBounds_toArray, List.set_cons_zero, List.set_cons_succ]; refine hK _ ?_; clear hK K))
  refine wpSeq_end ?_
  by_cases hx0 : x.1 = 0
  · have e := HR3.out
    rw [if_pos hx0] at e
    subst e
    rw [hx0] at h5 k3 k4 ok5 ⊢
    have em : metW 0 W = W := rfl
    rw [em] at h5 k3 k4 ok5
    obtain ⟨ok6, a7, c7, a6, c6, R6, h61, h62⟩ := isL_iff.1 h5
    have f4 := h62.free 4
    have h63 := h62.setCell 4 (.int .i64 W.recs.length)
    have H7 := Lib.hid (isL_mk (W := { W with sure := W.recs.length }) ⟨ok6.gen, (by show W.recs.length ≤ 1000000000; omega), ok6.size, ok6.many, ok6.state, ok6.recs, ok6.broken0, ok6.broken1⟩ h61 h63)
    clear h5 ok5 ok6 h61 h62 h63 hx hx0
    go_wp2_with fail
    go_ret
    exact ⟨rfl, H7.out⟩
  · have e := HR3.out
    rw [if_neg hx0] at e
    subst e
    have hx1 : (x.1 == 0) = false := by rw [beq_eq_false_iff_ne]; exact hx0
    have H5 := Lib.hid h5
    clear h5 k0 k3 k4 ok5
    go_wp2_with fail
    go_ret
    exact ⟨rfl, H5.out⟩
end
end Go.Proofs.YtlfmkiclaijokaaGreatDoor

namespace Go.Proofs.YtlfmkiclaijokaaGreatDoor
open Go.RowKit
set_option linter.unusedVariables false

theorem info_bytes : (Tryz.prog.info? 34).map (fun i => (i.zero, i.size, i.bytes)) = some (some (.slice none 0 0), 1, 24) := by kernel_rfl

theorem rowR_snoc {u w : World} {G : HProp} {R : List RecV} {b : Bs} {v : Value} {a : Option Addr} {c : Nat}
    (h : Sat u w (ownRow 34 1 (.slice a (R.length + 1) c) (R.length + 1) (R.map (·.2) ++ [v]) * (roR R * (roB v b * G)))) :
    Sat u w (ownRow 34 1 (.slice a (R ++ [(b, v)]).length c) (R ++ [(b, v)]).length ((R ++ [(b, v)]).map (·.2)) * (roR (R ++ [(b, v)]) * G)) := by
  have e1 : (R ++ [(b, v)]).length = R.length + 1 := by simp
  have e2 : (R ++ [(b, v)]).map (·.2) = R.map (·.2) ++ [v] := by simp
  rw [e1, e2, roR_append]
  have h3 : Sat u w (fact True * _) := Sat.fact_iff.2 ⟨trivial, h⟩
  refine h3.eq ?_
  show _ = _ * (roR R * (roB v b * fact True) * G)
  ac_rfl

theorem Sat.mv4 {u w : World} {A B C D X : HProp} (h : Sat u w (A * (B * (C * (D * X))))) : Sat u w (A * (D * (B * (C * X)))) := h.eq (by ac_rfl)

theorem rowR_snoc2 {u w : World} {G A : HProp} {R : List RecV} {b : Bs} {v : Value} {a : Option Addr} {c : Nat}
    (h : Sat u w (A * (ownRow 34 1 (.slice a (R.length + 1) c) (R.length + 1) (R.map (·.2) ++ [v]) * (roR R * (roB v b * G))))) :
    Sat u w (A * (ownRow 34 1 (.slice a (R ++ [(b, v)]).length c) (R ++ [(b, v)]).length ((R ++ [(b, v)]).map (·.2)) * (roR (R ++ [(b, v)]) * G))) := by
  have h2 : Sat u w (ownRow 34 1 (.slice a (R.length + 1) c) (R.length + 1) (R.map (·.2) ++ [v]) * (roR R * (roB v b * (A * G)))) := h.eq (by ac_rfl)
  exact (rowR_snoc h2).eq (by ac_rfl)

section
variable (u w : World) (F : HProp) (l p : Nat) (W : WalP) (d : DiskP) (b : Bs) (ab : Option Addr) (cb : Nat)

set_option maxRecDepth 100000 in
set_option maxHeartbeats 8000000 in
theorem lappend_any (hbl : b.length ≤ 100000000) (hb : ∀ w', Sat u w' F → BytesAt w' (.slice ab b.length cb) b) (hmany : d.files.length < 1000000) (hrm : W.recs.length < 1000000) (hsz : W.size + 17 + b.length ≤ 1000000000) (hs : Sat u w (isL l p W * (isD p d * F))) :
    Calls Tryz.prog 12 #[.pointer (some ⟨l, 0, none⟩), .slice ab b.length cb] w fun e w' => e = .returned (.int .i64 (appendW d W b).1) ∧ Sat u w' (isL l p (appendW d W b).2.1 * (isD p (appendW d W b).2.2 * F)) := by
  have hR : appendW d W b = if W.broken ≠ 0 then (W.broken, W, d) else if 1048576 < b.length then (3, W, d) else
      if (appendD d (nameW W.gen) (frameB 82 (W.recs.length + 1) b)).1 ≠ 0 then ((appendD d (nameW W.gen) (frameB 82 (W.recs.length + 1) b)).1, metW (appendD d (nameW W.gen) (frameB 82 (W.recs.length + 1) b)).1 W, (appendD d (nameW W.gen) (frameB 82 (W.recs.length + 1) b)).2)
      else (0, { W with recs := W.recs ++ [b], size := W.size + (frameB 82 (W.recs.length + 1) b).length }, (appendD d (nameW W.gen) (frameB 82 (W.recs.length + 1) b)).2) := rfl
  generalize appendW d W b = R at hR
  have HR := Lib.hid hR
  obtain ⟨i0, hi, hz0, hz1, hz2⟩ := info_parts info_bytes
  obtain ⟨ok, k0, k1, _, ⟨a3, c3, k3⟩, k4, k5, k6⟩ := isL_cells hs
  have hg := ok.gen
  have HB := Lib.hid hb
  have hfl := frameB_length 82 (W.recs.length + 1) b
  clear hR ok hb
  go_enter Tryz.func12, Tryz.ntmps12
  go_wp2_with fail
  refine (lbroken_any u w _ l p W hs).mono ?_
  rintro e w1 ⟨rfl, rfl⟩
  dsimp only
  by_cases hbr : W.broken = 0
  case neg =>
    have e := HR.out
    rw [if_pos hbr] at e
    subst e
    have hb2 : (W.broken != 0) = true := by simpa using hbr
    have H := Lib.hid hs
    clear hs k0 k1 k3 k4 k5 k6 hfl
    go_wp2_with fail
    go_ret
    exact ⟨rfl, H.out⟩
  rw [hbr]
  have HBR := Lib.hid hbr
  clear hbr k6
  by_cases hlen : (1048576 : Int) < b.length
  · have e := HR.out
    rw [if_neg (by simp [HBR.out]), if_pos (by omega)] at e
    subst e
    have H := Lib.hid hs
    clear hs k0 k1 k3 k4 k5 hfl
    go_wp2_with fail
    go_ret
    exact ⟨rfl, H.out⟩
  have e := HR.out
  rw [if_neg (by simp [HBR.out]), if_neg (by omega)] at e
  have HR2 := Lib.hid e
  have HFL := Lib.hid hfl
  clear e HR hfl
  have z1 : IntKind.i64.wrap ((W.recs.length : Int) + 1) = (W.recs.length : Int) + 1 := by rw [IntKind.wrap_i64]; omega
  go_wp2_with fail
  have hfr := framed_any u w _ 82 (W.recs.length + 1) (.slice ab b.length cb) b (by omega) hbl (fun w' h => HB.out w' h.right.right) hs
  rw [show ((82 : UInt8).toNat : Int) = 82 from rfl, show ((W.recs.length + 1 : Nat) : Int) = (W.recs.length : Int) + 1 from by omega] at hfr
  refine hfr.mono ?_
  rintro e w1 ⟨a6, c6, rfl, h1⟩
  dsimp only
  generalize hfe : frameB 82 (W.recs.length + 1) b = f at h1 ⊢
  have HFE := Lib.hid hfe
  clear hfr hs k0 k1 k3 k4 k5 z1 hfe
  go_wp2_with fail
  refine wp_region_seq [(0, true), (1, true), (2, true), (3, true), (4, true), (5, true), (7, true), (6, false), (8, false), (9, false), (10, true)] (fun x => x.cell? ⟨l, 0, none⟩ = some (.pointer (some ⟨p, 0, none⟩))) (by kernel_rfl) (by kernel_rfl) (fun _ _ _ _ _ h => h) ?_
  simp only [pickOps, Array.getD_eq_getD_getElem?, List.getElem?_toArray, List.getElem?_cons_succ, List.getElem?_cons_zero, Option.getD_some]
  have h2 : Sat u w1.drew (isL l p W * (ownB (.slice a6 f.length c6) f * (isD p d * F))) := h1.drew.s2
  generalize w1.drew = w2 at h2 ⊢
  clear h1
  obtain ⟨_, k0, k1, _, _, _, _, _⟩ := isL_cells h2
  repeat (first
    | (refine wpSeq_run (by rfl) k0 (fun K hK => ⟨?_, ?_, ?_⟩); rotate_left; (· (intro wS hSw; go_simp <;> with_reducible rfl)); simp only [Act.put, List.setIfInBounds_toArray, List.set_cons_zero, List.set_cons_succ]; refine hK _ ?_; clear hK K)
    | (refine wpSeq_skip (by rfl) k0 (fun K hK => ?_); simp only [Act.put, List.setIfInBounds_toArray, List.set_cons_zero, List.set_cons_succ]; refine hK _ ?_; clear hK K))
  refine wpSeq_act (by rfl) (fun K hK => ?_)
  go_simp
  refine (lname_any w2 l W.gen hg k1).mono ?_
  rintro e w3 ⟨rfl, rfl⟩
  try dsimp only
  try simp only [Act.put, List.setIfInBounds_toArray, List.set_cons_zero, List.set_cons_succ]
  refine hK _ _ (_) ((fun _ h => h)) k0 ?_
  clear hK K
  refine wpSeq_act (by rfl) (fun K hK => ?_)
  go_simp
  have hfl2 : f.length = 17 + b.length := by rw [← HFE.out]; exact HFL.out
  refine (dappend_any u w2 (isL l p W * (ownB (.slice a6 f.length c6) f * F)) p d (nameW W.gen) f a6 c6 (by have := nameW_len W.gen; omega) (by omega) (fun w' h => h.right.bytes) hmany (h2.eq (by ac_rfl))).mono ?_
  rintro e w3 ⟨rfl, h3⟩
  have hx := append_err d (nameW W.gen) f
  have e2 := HR2.out
  rw [HFE.out] at e2
  obtain ⟨x, hxe⟩ : ∃ x, appendD d (nameW W.gen) f = x := ⟨_, rfl⟩
  rw [hxe] at h3 hx e2 ⊢
  have HR3 := Lib.hid e2
  have HFL2 := Lib.hid hfl2
  clear HR2 e2 hxe h2 k0 k1 hfl2 HFL
  have h4 := h3.s2
  obtain ⟨_, k0, _, _, _, _, _, _⟩ := isL_cells h4
  try dsimp only
  try simp only [Act.put, List.setIfInBounds_toArray, List.set_cons_zero, List.set_cons_succ]
  refine hK _ _ (_) ((fun _ h => h)) k0 ?_
  clear hK K
  refine wpSeq_act (by rfl) (fun K hK => ?_)
  go_simp
  refine (lmet_any u w3 _ l p W x.1 hx.range.1 hx.range.2 h4).mono ?_
  rintro e w4 ⟨rfl, h5⟩
  obtain ⟨ok5, k0, _, _, _, _, _, _⟩ := isL_cells h5
  clear h3 h4
  try dsimp only
  try simp only [Act.put, List.setIfInBounds_toArray, List.set_cons_zero, List.set_cons_succ]
  refine hK _ _ (_) ((fun _ h => h)) k0 ?_
  clear hK K
  repeat (first
    | (refine wpSeq_run (by rfl) k0 (fun K hK => ⟨?_, ?_, ?_⟩); rotate_left; (· (intro wS hSw; go_simp <;> with_reducible rfl)); simp only [Act.put, List.setIfInBounds_toArray, List.set_cons_zero, List.set_cons_succ]; refine hK _ ?_; clear hK K)
    | (refine wpSeq_skip (by rfl) k0 (fun K hK => ?_); simp only [Act.put, List.setIfInBounds_toArray, List.set_cons_zero, List.set_cons_succ]; refine hK _ ?_; clear hK K))
  refine wpSeq_end ?_
  by_cases hx0 : x.1 = 0
  case neg =>
    have e := HR3.out
    rw [if_pos hx0] at e
    subst e
    have hx1 : (x.1 != 0) = true := by simpa using hx0
    have H5 := Lib.hid (h5.eq (show _ = ownB (.slice a6 f.length c6) f * (isL l p (metW x.1 W) * (isD p x.2 * F)) by ac_rfl)).right
    clear h5 k0 ok5
    go_wp2_with fail
    go_ret
    exact ⟨rfl, H5.out⟩
  have e := HR3.out
  rw [if_neg (by simp [hx0])] at e
  have HR4 := Lib.hid e
  rw [hx0] at h5 ⊢
  have em : metW 0 W = W := rfl
  rw [em] at h5
  clear em e HR3 hx0 hx ok5
  have h6 : Sat u w4 (isL l p W * (isD p x.2 * F)) := (h5.eq (show _ = ownB (.slice a6 f.length c6) f * (isL l p W * (isD p x.2 * F)) by ac_rfl)).right
  clear h5 k0
  go_wp2_with fail
  obtain ⟨ok6, a1, c1, a2, c2, R6, hR6, h7⟩ := isL_iff.1 h6
  have OK6 := Lib.hid ok6
  have hR6l : R6.length = W.recs.length := by rw [← hR6, List.length_map]
  have HR6 := Lib.hid hR6
  have HR6L := Lib.hid hR6l
  have hrm6 : R6.length < 1000000 := by omega
  clear h6 ok6 hR6 hR6l
  refine wp_region_last 11 [(0, true), (1, true), (2, true), (3, true), (4, true), (5, true), (6, false), (7, false), (8, false), (9, false), (10, true), (11, false)] (fun x => x.cell? ⟨l, 3, none⟩ = some (.slice a2 R6.length c2)) (by kernel_rfl) (by kernel_rfl) (fun _ _ _ _ _ h => h) ?_
  simp only [pickOps, Array.getD_eq_getD_getElem?, List.getElem?_toArray, List.getElem?_cons_succ, List.getElem?_cons_zero, Option.getD_some]
  have h8 := h7.drew
  generalize w4.drew = w5 at h8 ⊢
  clear h7
  have k3 : w5.cell? ⟨l, 3, none⟩ = some (.slice a2 R6.length c2) := h8.cell 3
  repeat (first
    | (refine wpSeqM_run (by rfl) k3 (fun K hK => ⟨?_, ?_, ?_⟩); rotate_left; (· (intro wS hSw; go_simp <;> with_reducible rfl)); simp only [Act.put, List.setIfInBounds_toArray, List.set_cons_zero, List.set_cons_succ]; refine hK _ ?_; clear hK K)
    | (refine wpSeqM_skip (by rfl) k3 (fun K hK => ?_); simp only [Act.put, List.setIfInBounds_toArray, List.set_cons_zero, List.set_cons_succ]; refine hK _ ?_; clear hK K))
  refine wpSeqM_act (by rfl) (fun K hK => ?_)
  go_simp
  have hbb := HB.out w5 h8.right.right.right.right.right
  refine (clone_any u w5 _ _ b h8 hbb (by omega)).mono ?_
  rintro e w6 ⟨a8, c8, rfl, h9⟩
  clear h8 k3 hbb
  have h10 : Sat u w6 (own l (logHead p (.slice a1 W.state.length c1) (.slice a2 R6.length c2) W) * (roB (.slice a8 b.length c8) b * (roB (.slice a1 W.state.length c1) W.state * (ownRow 34 1 (.slice a2 R6.length c2) R6.length (R6.map (·.2)) * (roR R6 * (isD p x.2 * F)))))) := (Sat.roB_own h9).s2
  try dsimp only
  try simp only [Act.put, List.setIfInBounds_toArray, List.set_cons_zero, List.set_cons_succ]
  refine hK _ _ (_) ((fun _ h => h)) (h10.cell 3) ?_
  clear hK K
  refine wpSeqM_act (by rfl) (fun K hK => ?_)
  go_simp
  clear h9
  have h11 := h10.alloc (.cells #[.slice a8 b.length c8] 34)
  try dsimp only
  try simp only [Act.put, List.setIfInBounds_toArray, List.set_cons_zero, List.set_cons_succ]
  refine hK _ _ (_) ((fun _ h => h)) (h11.right.cell 3) ?_
  clear hK K
  refine wpSeqM_act (by rfl) (fun K hK => ?_)
  have h12 : Sat u (w6.alloc (.cells #[.slice a8 b.length c8] 34)) (ownRow 34 1 (.slice a2 R6.length c2) R6.length (R6.map (·.2)) * (own w6.heap.size (.cells #[.slice a8 b.length c8] 34 (0, 0)) * (own l (logHead p (.slice a1 W.state.length c1) (.slice a2 R6.length c2) W) * (roB (.slice a8 b.length c8) b * (roB (.slice a1 W.state.length c1) W.state * (roR R6 * (isD p x.2 * F))))))) := h11.eq (by ac_rfl)
  refine wp_append_sl _ _ 47 rfl i0 (.slice none 0 0) Tryz.underlying47 hi hz0 hz1 hz2 rfl (by decide) rfl rfl h12 (x := .slice (some ⟨w6.heap.size, 0, none⟩) 1 1) (n := R6.length) (m := 1) (news := [.slice a8 b.length c8]) (.inr ⟨_, _, rfl, Nat.le_refl _, by decide, fun j y hy => by rw [addr_add, h11.cell]; simpa using hy⟩) rfl (by intro q hq; simp only [List.mem_cons, List.not_mem_nil, or_false] at hq; subst hq; rfl) (by omega) ?_
  intro a9 c9 w7 h13 hx
  clear hx h10 h11 h12
  have h14 := h13.right.right
  try dsimp only
  try simp only [Act.put, List.setIfInBounds_toArray, List.set_cons_zero, List.set_cons_succ]
  refine hK _ _ (_) ((fun _ h => h)) (h14.cell 3) ?_
  clear hK K
  refine wpSeqM_act (by rfl) (fun K hK => ?_)
  go_simp
  try dsimp only
  try simp only [Act.put, List.setIfInBounds_toArray, List.set_cons_zero, List.set_cons_succ]
  refine hK _ _ (_) ((fun _ h => h)) (h14.cell 3) ?_
  clear hK K
  repeat (first
    | (refine wpSeqM_run (by rfl) (h14.cell 3) (fun K hK => ⟨?_, ?_, ?_⟩); rotate_left; (· (intro wS hSw; go_simp <;> with_reducible rfl)); simp only [Act.put, List.setIfInBounds_toArray, List.set_cons_zero, List.set_cons_succ]; refine hK _ ?_; clear hK K)
    | (refine wpSeqM_skip (by rfl) (h14.cell 3) (fun K hK => ?_); simp only [Act.put, List.setIfInBounds_toArray, List.set_cons_zero, List.set_cons_succ]; refine hK _ ?_; clear hK K))
  have q3 := h14.cell 3
  have g3 := h14.free 3
  have h15 : Sat u w7 (own l (logHead p (.slice a1 W.state.length c1) (.slice a2 R6.length c2) W) * (roB (.slice a1 W.state.length c1) W.state * (ownRow 34 1 (.slice a9 (R6.length + 1) c9) (R6.length + 1) (R6.map (·.2) ++ [.slice a8 b.length c8]) * (roR R6 * (roB (.slice a8 b.length c8) b * (isD p x.2 * F)))))) := (h13.eq (show _ = own w6.heap.size (.cells #[.slice a8 b.length c8] 34 (0, 0)) * (own l (logHead p (.slice a1 W.state.length c1) (.slice a2 R6.length c2) W) * (roB (.slice a1 W.state.length c1) W.state * (ownRow 34 1 (.slice a9 (R6.length + 1) c9) (R6.length + 1) (R6.map (·.2) ++ [.slice a8 b.length c8]) * (roR R6 * (roB (.slice a8 b.length c8) b * (isD p x.2 * F)))))) by ac_rfl)).right
  have h16 := h15.setCell 3 (.slice a9 (R6.length + 1) c9)
  refine wpSeqM_last (by rfl) (fun K hK => ?_)
  go_simp
  refine hK _ _ ?_
  clear h13 h14 h15 q3 g3
  generalize w7.setCell ⟨l, 3, none⟩ (.slice a9 (R6.length + 1) c9) = w8 at h16 ⊢
  have q5 : w8.cell? ⟨l, 5, none⟩ = some (.int .i64 W.size) := h16.cell 5
  have g5 := h16.free 5
  have hfl3 := HFL2.out
  have z2 : IntKind.i64.wrap ((W.size : Int) + (f.length : Int)) = (W.size : Int) + (f.length : Int) := by rw [IntKind.wrap_i64]; omega
  have h17 := h16.setCell 5 (.int .i64 ((W.size : Int) + (f.length : Int)))
  have h18 : Sat u (w8.setCell ⟨l, 5, none⟩ (.int .i64 ((W.size : Int) + (f.length : Int)))) (own l (logHead p (.slice a1 W.state.length c1) (.slice a9 (R6.length + 1) c9) { W with recs := W.recs ++ [b], size := W.size + f.length }) * (ownRow 34 1 (.slice a9 (R6.length + 1) c9) (R6.length + 1) (R6.map (·.2) ++ [.slice a8 b.length c8]) * (roR R6 * (roB (.slice a8 b.length c8) b * (roB (.slice a1 W.state.length c1) W.state * (isD p x.2 * F)))))) := h17.eq (by
    show own l (.cells #[.pointer (some ⟨p, 0, none⟩), .int .i64 W.gen, .slice a1 W.state.length c1, .slice a9 (R6.length + 1) c9, .int .i64 W.sure, .int .i64 ((W.size : Int) + (f.length : Int)), .int .i64 W.broken] 56 (0, 0)) * _ = own l (.cells #[.pointer (some ⟨p, 0, none⟩), .int .i64 W.gen, .slice a1 W.state.length c1, .slice a9 (R6.length + 1) c9, .int .i64 W.sure, .int .i64 ((W.size + f.length : Nat) : Int), .int .i64 W.broken] 56 (0, 0)) * _
    rw [Int.natCast_add]
    ac_rfl)
  have h20 := rowR_snoc2 h18
  obtain ⟨R7, hR7⟩ : ∃ R7 : List RecV, R6 ++ [(b, Value.slice a8 b.length c8)] = R7 := ⟨_, rfl⟩
  have hl7 : R6.length + 1 = R7.length := by rw [← hR7]; simp
  have hm7 : R7.map (·.1) = W.recs ++ [b] := by rw [← hR7, List.map_append, HR6.out]; rfl
  rw [hR7, hl7] at h20
  have ok7 : OkW { W with recs := W.recs ++ [b], size := W.size + f.length } := ⟨OK6.out.gen, OK6.out.sure, (by show W.size + f.length ≤ _; omega), (by show (W.recs ++ [b]).length ≤ _; rw [List.length_append]; simp; omega), OK6.out.state, (fun y hy => by
    rcases List.mem_append.1 hy with hy | hy
    · exact OK6.out.recs y hy
    · simp only [List.mem_cons, List.not_mem_nil, or_false] at hy
      subst hy
      exact hbl), OK6.out.broken0, OK6.out.broken1⟩
  have H21 := Lib.hid (isL_mk (p := p) (W := { W with recs := W.recs ++ [b], size := W.size + f.length }) ok7 hm7 h20.mv4)
  clear h16 h17 h18 h20 hfl3 ok7 hR7 hm7
  rw [hl7]
  clear hl7
  have e := HR4.out
  subst e
  go_wp2_with fail
  go_ret
  exact ⟨rfl, H21.out⟩
end
end Go.Proofs.YtlfmkiclaijokaaGreatDoor

namespace Go.Proofs.YtlfmkiclaijokaaGreatDoor
open Go.RowKit
set_option linter.unusedVariables false

theorem tidyP_err (own : Bs) : ∀ (l : List Bs) (d : DiskP), okErr (tidyP own l d).1
  | [], d => .inl rfl
  | n :: l, d => by
    unfold tidyP
    split
    · split
      · exact remove_err d n
      · exact tidyP_err own l _
    · exact tidyP_err own l d

section
variable (u w : World) (F : HProp) (l p : Nat) (W : WalP) (d : DiskP)

set_option maxRecDepth 100000 in
set_option maxHeartbeats 8000000 in
theorem ltidy_any (hnl : ∀ f ∈ d.files, f.name.length ≤ 1000000000) (hs : Sat u w (isL l p W * (isD p d * F))) :
    Calls Tryz.prog 31 #[.pointer (some ⟨l, 0, none⟩)] w fun e w' => e = .returned (.int .i64 (tidyP (nameW W.gen) (d.files.map FileP.name) d).1) ∧ Sat u w' (isL l p W * (isD p (tidyP (nameW W.gen) (d.files.map FileP.name) d).2 * F)) := by
  obtain ⟨ok, k0, k1, _, _, _, _, _⟩ := isL_cells hs
  have okd := (isD_iff.1 hs.s2).1
  have hg := ok.gen
  have hmany := okd.many
  generalize hR : tidyP (nameW W.gen) (d.files.map FileP.name) d = R
  have HR := Lib.hid hR
  obtain ⟨names, hn⟩ : ∃ names, d.files.map FileP.name = names := ⟨_, rfl⟩
  have hnn : ∀ n ∈ names, n.length ≤ 1000000000 := by
    intro n hn2
    rw [← hn] at hn2
    obtain ⟨f, hf, rfl⟩ := List.mem_map.1 hn2
    exact hnl f hf
  have hlen : d.files.length = names.length := by rw [← hn, List.length_map]
  have HN := Lib.hid hn
  have HNN := Lib.hid hnn
  have HLE := Lib.hid hlen
  have hnb : names.length ≤ 1000000 := by omega
  clear hR hn hnn hlen hnl okd ok
  go_enter Tryz.func31, Tryz.ntmps31
  go_wp2_with fail
  refine (names_any u w _ p d hs.s2).mono ?_
  rintro e w1 ⟨a, c, rfl, h1⟩
  dsimp only
  rw [HN.out, HLE.out] at h1
  rw [HLE.out]
  have h2 : Sat u w1 (ownS (.slice a names.length c) names * (isL l p W * (isD p d * F))) := h1.eq (by ac_rfl)
  clear hs h1 k0 k1
  go_wp2_with fail
  go_loopw [12] (fun t12 wr => ∃ k : Nat, k ≤ names.length ∧ t12 = .int .i64 k ∧ ∃ dk : DiskP, tidyP (nameW W.gen) (names.drop k) dk = R ∧ Sat u wr (ownS (.slice a names.length c) names * (isL l p W * (isD p dk * F)))) (fun t _ => names.length - (intOf t).toNat)
  case atStart => exact ⟨0, Nat.zero_le _, rfl, d, by rw [List.drop_zero, ← HN.out]; exact HR.out, h2⟩
  case round =>
    clear h2
    obtain ⟨k, hk, rfl, dk, hR, h3⟩ := hrel
    by_cases hlt : k < names.length
    · obtain ⟨n, hn⟩ : ∃ n, names[k]? = some n := ⟨names[k]'hlt, List.getElem?_eq_getElem _⟩
      have hnl := HNN.out n (List.mem_of_getElem? hn)
      have hdrop : names.drop k = n :: names.drop (k + 1) := by
        obtain ⟨hk2, rfl⟩ := List.getElem?_eq_some_iff.1 hn
        exact List.drop_eq_getElem_cons hk2
      rw [hdrop] at hR
      have HR2 := Lib.hid hR
      unfold ownS at h3
      rcases h3.row_at with ⟨_, h0, _⟩ | ⟨ad, c', hz, _, _, hcell⟩
      · omega
      cases hz
      have e0 := hcell k (.string (str n)) (by rw [List.getElem?_map, hn]; rfl)
      have y1 : (k : Int) < names.length := by omega
      obtain ⟨_, k0, k1, _, _, _, _, _⟩ := isL_cells h3.right
      clear hcell hn hdrop hR
      go_upto_region 4 with fail
      go_cut [27] (fun t wx => t = .bool (toRemove (nameW W.gen) n) ∧ wx = wr)
      case first J K' hJ hmet =>
        have hst : (str n).toList = n := str_toList n
        have hst2 : (str (nameW W.gen)).toList = nameW W.gen := str_toList _
        by_cases hA : n = tmpN
        · have hA2 : (n == [99, 107, 46, 116, 109, 112]) = true := by rw [hA]; decide
          have hT : toRemove (nameW W.gen) n = true := by unfold toRemove; rw [hA]; simp
          have HT := Lib.hid hT
          clear hA hT
          go_wp2_with fail
          go_meet
          rw [HT.out]
          exact ⟨rfl, rfl⟩
        · have hA2 : (n == [99, 107, 46, 116, 109, 112]) = false := by rw [beq_eq_false_iff_ne]; exact hA
          go_wp2_with fail
          refine (hasPrefix_any n logPre wr).mono ?_
          rintro e w2 ⟨rfl, rfl⟩
          have hA3 : decide (n = tmpN) = false := by simpa using hA
          rcases hp : logPre.isPrefixOf n with _ | _
          · have hT : toRemove (nameW W.gen) n = false := by unfold toRemove; rw [hp, hA3]; rfl
            have HT := Lib.hid hT
            clear hp hT hA3 hA hA2
            dsimp only
            go_wp2_with fail
            go_meet
            rw [HT.out]
            exact ⟨rfl, rfl⟩
          · have hT : toRemove (nameW W.gen) n = decide (n ≠ nameW W.gen) := by unfold toRemove; rw [hp, hA3]; simp
            have HT := Lib.hid hT
            clear hp hT hA3 hA hA2
            dsimp only
            go_wp2_with fail
            refine (lname_any wr l W.gen hg k1).mono ?_
            rintro e w2 ⟨rfl, rfl⟩
            by_cases hO : n = nameW W.gen
            · have hO2 : (n == nameW W.gen) = true := by simpa using hO
              have hO3 : decide (n ≠ nameW W.gen) = false := by simpa using hO
              rw [hO3] at HT
              clear hO hO3
              go_wp2_with fail
              go_meet
              rw [HT.out]
              exact ⟨rfl, rfl⟩
            · have hO2 : (n == nameW W.gen) = false := by simpa using hO
              have hO3 : decide (n ≠ nameW W.gen) = true := by simpa using hO
              rw [hO3] at HT
              clear hO hO3
              go_wp2_with fail
              go_meet
              rw [HT.out]
              exact ⟨rfl, rfl⟩
      case rest =>
        obtain ⟨rfl, rfl⟩ := hcut
        rcases hT : toRemove (nameW W.gen) n with _ | _
        · have hR3 : tidyP (nameW W.gen) (names.drop (k + 1)) dk = R := by
            have := HR2.out
            unfold tidyP at this
            rwa [if_neg (by rw [hT]; decide)] at this
          have HR3 := Lib.hid hR3
          clear hT hR3 e0 k0 k1
          go_wp2_with fail
          go_roundw
          case rel => exact ⟨k + 1, by omega, by go_num, dk, HR3.out, h3⟩
          case measure => simp [intOf]; omega
        · have hR3 := HR2.out
          unfold tidyP at hR3
          rw [if_pos hT] at hR3
          have h4 : Sat u wc (isD p dk * (ownRow 9 1 (.slice (some ad) names.length c) names.length (names.map fun s => Value.string (str s)) * (isL l p W * F))) := h3.eq (by ac_rfl)
          have hx := remove_err dk n
          have hrem := dremove_any u wc _ p dk n hnl h4
          generalize removeD dk n = x at hR3 hx hrem
          have HR3 := Lib.hid hR3
          clear hT hR3 e0 k1
          go_wp2_with fail
          refine hrem.mono ?_
          rintro e w2 ⟨rfl, h5⟩
          clear hrem k0 h3 h4
          dsimp only
          by_cases hx0 : x.1 = 0
          · have hR4 : tidyP (nameW W.gen) (names.drop (k + 1)) x.2 = R := by
              have := HR3.out
              rwa [if_neg (by simp [hx0])] at this
            have HR4 := Lib.hid hR4
            rw [hx0]
            have h6 : Sat u w2 (ownRow 9 1 (.slice (some ad) names.length c) names.length (names.map fun s => Value.string (str s)) * (isL l p W * (isD p x.2 * F))) := h5.eq (by ac_rfl)
            clear hR4 hx0 hx h5
            go_wp2_with fail
            go_roundw
            case rel => exact ⟨k + 1, by omega, by go_num, x.2, HR4.out, h6⟩
            case measure => simp [intOf]; omega
          · have hR4 := HR3.out
            rw [if_pos hx0] at hR4
            have HR4 := Lib.hid hR4
            have hx1 : (x.1 != 0) = true := by simpa using hx0
            have H6 := Lib.hid (h5.eq (show _ = ownRow 9 1 (.slice (some ad) names.length c) names.length (names.map fun s => Value.string (str s)) * (isL l p W * (isD p x.2 * F)) by ac_rfl)).right
            clear hR4 hx0 hx h5
            go_wp2_with fail
            go_ret
            rw [← HR4.out]
            exact ⟨rfl, H6.out⟩
    · have e : k = names.length := by omega
      subst e
      have hR2 : (0, dk) = R := by rw [← hR, List.drop_length]; rfl
      have HR2 := Lib.hid hR2
      have H3 := Lib.hid h3.right
      clear hR hR2 h3
      go_wp2_with fail
      go_ret
      rw [← HR2.out]
      exact ⟨rfl, H3.out⟩
end
end Go.Proofs.YtlfmkiclaijokaaGreatDoor

namespace Go.Proofs.YtlfmkiclaijokaaGreatDoor
open Go.RowKit
set_option linter.unusedVariables false

def ckStep (W : WalP) (b : Bs) : Nat → DiskP → Int × DiskP
  | 0, d => step0 d
  | 1, d => appendD d tmpN (frameB 75 (W.gen + 1) b)
  | 2, d => driesD d tmpN tmpN wholeL
  | _, d => driesD d tmpN ckN wholeL

theorem ckStep_err (W : WalP) (b : Bs) (k : Nat) (d : DiskP) : okErr (ckStep W b k d).1 := by
  unfold ckStep
  split
  · unfold step0
    split
    · exact remove_err d _
    · exact .inl rfl
  · exact append_err d _ _
  · exact dries_err d _ _ _ whole_err
  · exact dries_err d _ _ _ whole_err

/-- The disk behind so many steps that went well. -/
def ckStage (W : WalP) (b : Bs) (d : DiskP) : Nat → Option DiskP
  | 0 => some d
  | k + 1 => match ckStage W b d k with
    | none => none
    | some dk => if (ckStep W b k dk).1 = 0 then some (ckStep W b k dk).2 else none

theorem ckStage_succ {W : WalP} {b : Bs} {d dk : DiskP} {k : Nat} (h : ckStage W b d (k + 1) = some dk) : ∃ dj, ckStage W b d k = some dj ∧ (ckStep W b k dj).1 = 0 ∧ (ckStep W b k dj).2 = dk := by
  unfold ckStage at h
  split at h
  · cases h
  · next dj hj =>
    split at h
    · next h0 => exact ⟨dj, hj, h0, Option.some.inj h⟩
    · cases h

theorem check_fails {W : WalP} {b : Bs} {d dk : DiskP} {k : Nat} (h1 : W.broken = 0) (h2 : ¬ 8000000 < b.length) (h3 : ¬ W.sure < W.recs.length) (hk : k < 4) (h : ckStage W b d k = some dk) (hx : (ckStep W b k dk).1 ≠ 0) :
    checkW d W b = ((ckStep W b k dk).1, metW (ckStep W b k dk).1 W, (ckStep W b k dk).2) := by
  unfold checkW
  rw [if_neg (by simp [h1]), if_neg h2, if_neg h3]
  dsimp only
  match k, hk with
  | 0, _ =>
    cases h
    exact if_pos hx
  | 1, _ =>
    obtain ⟨d0, e0, z0, rfl⟩ := ckStage_succ h
    cases e0
    rw [if_neg (by intro c; exact c z0)]
    exact if_pos hx
  | 2, _ =>
    obtain ⟨d1, e1, z1, rfl⟩ := ckStage_succ h
    obtain ⟨d0, e0, z0, rfl⟩ := ckStage_succ e1
    cases e0
    rw [if_neg (by intro c; exact c z0), if_neg (by intro c; exact c z1)]
    exact if_pos hx
  | 3, _ =>
    obtain ⟨d2, e2, z2, rfl⟩ := ckStage_succ h
    obtain ⟨d1, e1, z1, rfl⟩ := ckStage_succ e2
    obtain ⟨d0, e0, z0, rfl⟩ := ckStage_succ e1
    cases e0
    rw [if_neg (by intro c; exact c z0), if_neg (by intro c; exact c z1), if_neg (by intro c; exact c z2)]
    exact if_pos hx

theorem check_done {W : WalP} {b : Bs} {d d4 : DiskP} (h1 : W.broken = 0) (h2 : ¬ 8000000 < b.length) (h3 : ¬ W.sure < W.recs.length) (h : ckStage W b d 4 = some d4) :
    checkW d W b = if (readD d4 (nameW W.gen)).2 = 0 then ((removeD d4 (nameW W.gen)).1, metW (removeD d4 (nameW W.gen)).1 ⟨W.gen + 1, b, [], 0, 0, 0⟩, (removeD d4 (nameW W.gen)).2) else (0, ⟨W.gen + 1, b, [], 0, 0, 0⟩, d4) := by
  unfold checkW
  rw [if_neg (by simp [h1]), if_neg h2, if_neg h3]
  dsimp only
  obtain ⟨d3, e3, z3, rfl⟩ := ckStage_succ h
  obtain ⟨d2, e2, z2, rfl⟩ := ckStage_succ e3
  obtain ⟨d1, e1, z1, rfl⟩ := ckStage_succ e2
  obtain ⟨d0, e0, z0, rfl⟩ := ckStage_succ e1
  cases e0
  rw [if_neg (by intro c; exact c z0), if_neg (by intro c; exact c z1), if_neg (by intro c; exact c z2), if_neg (by intro c; exact c z3)]
  rfl

section
variable (u w : World) (F : HProp) (l p b2 b3 : Nat) (W : WalP) (d : DiskP) (b : Bs) (ab : Option Addr) (cb : Nat)

theorem ck1_any (hs : Sat u w (own b2 (.cells #[.pointer (some ⟨l, 0, none⟩)] 28 (0, 0)) * (isL l p W * (isD p d * F)))) :
    Calls Tryz.prog 37 #[.pointer (some ⟨b2, 0, none⟩)] w fun e w' => e = .returned (.int .i64 (step0 d).1) ∧ Sat u w' (own b2 (.cells #[.pointer (some ⟨l, 0, none⟩)] 28 (0, 0)) * (isL l p W * (isD p (step0 d).2 * F))) := by
  have hR : step0 d = if (readD d tmpN).2 = 0 then removeD d tmpN else (0, d) := rfl
  generalize step0 d = R at hR
  have HR := Lib.hid hR
  have c2 : w.cell? ⟨b2, 0, none⟩ = some (.pointer (some ⟨l, 0, none⟩)) := hs.cell 0
  have h1 : Sat u w (isL l p W * (isD p d * (own b2 (.cells #[.pointer (some ⟨l, 0, none⟩)] 28 (0, 0)) * F))) := hs.eq (by ac_rfl)
  clear hs hR
  go_enter Tryz.func37, Tryz.ntmps37
  go_wp2_with fail
  refine (lthere_any u w _ l p W d tmpN (by decide) h1).mono ?_
  rintro e w1 ⟨rfl, h2⟩
  dsimp only
  clear h1 c2
  have c2 : w1.cell? ⟨b2, 0, none⟩ = some (.pointer (some ⟨l, 0, none⟩)) := h2.right.right.cell 0
  obtain ⟨_, k0, _, _, _, _, _, _⟩ := isL_cells h2
  by_cases hx : (readD d tmpN).2 = 0
  · rw [show decide ((readD d tmpN).2 = 0) = true from by simpa using hx]
    have e := HR.out
    rw [if_pos hx] at e
    subst e
    clear hx
    go_wp2_with fail
    refine (dremove_any u w1 _ p d tmpN (by decide) h2.s2).mono ?_
    rintro e w2 ⟨rfl, h3⟩
    dsimp only
    have H3 := Lib.hid (h3.eq (show _ = own b2 (.cells #[.pointer (some ⟨l, 0, none⟩)] 28 (0, 0)) * (isL l p W * (isD p (removeD d tmpN).2 * F)) by ac_rfl))
    clear h2 h3 c2 k0
    go_wp2_with fail
    go_ret
    exact ⟨rfl, H3.out⟩
  · rw [show decide ((readD d tmpN).2 = 0) = false from by simpa using hx]
    have e := HR.out
    rw [if_neg hx] at e
    subst e
    have H3 := Lib.hid (h2.eq (show _ = own b2 (.cells #[.pointer (some ⟨l, 0, none⟩)] 28 (0, 0)) * (isL l p W * (isD p d * F)) by ac_rfl))
    clear hx h2 c2 k0
    go_wp2_with fail
    go_ret
    exact ⟨rfl, H3.out⟩

theorem ck3_any (hs : Sat u w (own b2 (.cells #[.pointer (some ⟨l, 0, none⟩)] 28 (0, 0)) * (isL l p W * (isD p d * F)))) :
    Calls Tryz.prog 42 #[.pointer (some ⟨b2, 0, none⟩)] w fun e w' => e = .returned (.int .i64 (driesD d tmpN tmpN wholeL).1) ∧ Sat u w' (own b2 (.cells #[.pointer (some ⟨l, 0, none⟩)] 28 (0, 0)) * (isL l p W * (isD p (driesD d tmpN tmpN wholeL).2 * F))) := by
  have c2 : w.cell? ⟨b2, 0, none⟩ = some (.pointer (some ⟨l, 0, none⟩)) := hs.cell 0
  obtain ⟨_, k0, _, _, _, _, _, _⟩ := isL_cells hs.right
  go_enter Tryz.func42, Tryz.ntmps42
  go_wp2_with fail
  refine (dsync_any u w _ p d tmpN (by decide) hs.s3).mono ?_
  rintro e w2 ⟨rfl, h3⟩
  dsimp only
  have H3 := Lib.hid (h3.eq (show _ = own b2 (.cells #[.pointer (some ⟨l, 0, none⟩)] 28 (0, 0)) * (isL l p W * (isD p (driesD d tmpN tmpN wholeL).2 * F)) by ac_rfl))
  clear hs h3 c2 k0
  go_wp2_with fail
  go_ret
  exact ⟨rfl, H3.out⟩

theorem ck4_any (hs : Sat u w (own b2 (.cells #[.pointer (some ⟨l, 0, none⟩)] 28 (0, 0)) * (isL l p W * (isD p d * F)))) :
    Calls Tryz.prog 43 #[.pointer (some ⟨b2, 0, none⟩)] w fun e w' => e = .returned (.int .i64 (driesD d tmpN ckN wholeL).1) ∧ Sat u w' (own b2 (.cells #[.pointer (some ⟨l, 0, none⟩)] 28 (0, 0)) * (isL l p W * (isD p (driesD d tmpN ckN wholeL).2 * F))) := by
  have c2 : w.cell? ⟨b2, 0, none⟩ = some (.pointer (some ⟨l, 0, none⟩)) := hs.cell 0
  obtain ⟨_, k0, _, _, _, _, _, _⟩ := isL_cells hs.right
  go_enter Tryz.func43, Tryz.ntmps43
  go_wp2_with fail
  refine (drename_any u w _ p d tmpN ckN (by decide) (by decide) hs.s3).mono ?_
  rintro e w2 ⟨rfl, h3⟩
  dsimp only
  have H3 := Lib.hid (h3.eq (show _ = own b2 (.cells #[.pointer (some ⟨l, 0, none⟩)] 28 (0, 0)) * (isL l p W * (isD p (driesD d tmpN ckN wholeL).2 * F)) by ac_rfl))
  clear hs h3 c2 k0
  go_wp2_with fail
  go_ret
  exact ⟨rfl, H3.out⟩

set_option maxRecDepth 100000 in
set_option maxHeartbeats 4000000 in
theorem ck2_any (hbl : b.length ≤ 8000000) (hmany : d.files.length < 1000000) (hb : ∀ w', Sat u w' F → BytesAt w' (.slice ab b.length cb) b)
    (hs : Sat u w (own b2 (.cells #[.pointer (some ⟨l, 0, none⟩)] 28 (0, 0)) * (own b3 (.cells #[.slice ab b.length cb] 34 (0, 0)) * (isL l p W * (isD p d * F))))) :
    Calls Tryz.prog 40 #[.pointer (some ⟨b2, 0, none⟩), .pointer (some ⟨b3, 0, none⟩)] w fun e w' => e = .returned (.int .i64 (appendD d tmpN (frameB 75 (W.gen + 1) b)).1) ∧
      Sat u w' (own b2 (.cells #[.pointer (some ⟨l, 0, none⟩)] 28 (0, 0)) * (own b3 (.cells #[.slice ab b.length cb] 34 (0, 0)) * (isL l p W * (isD p (appendD d tmpN (frameB 75 (W.gen + 1) b)).2 * F)))) := by
  obtain ⟨ok, k0, k1, _, _, _, _, _⟩ := isL_cells hs.right.right
  have hg := ok.gen
  have HB := Lib.hid hb
  have z1 : IntKind.i64.wrap ((W.gen : Int) + 1) = (W.gen : Int) + 1 := by rw [IntKind.wrap_i64]; omega
  clear k0 k1 ok hb
  go_enter Tryz.func40, Tryz.ntmps40
  go_wp2_with fail
  refine wp_region_seq [(0, true), (1, true), (2, true), (3, true), (4, true), (5, true), (6, true), (7, true), (8, true), (9, true), (10, false), (11, false), (12, true)] (fun x => x.cell? ⟨b2, 0, none⟩ = some (.pointer (some ⟨l, 0, none⟩)) ∧ x.cell? ⟨b3, 0, none⟩ = some (.slice ab b.length cb) ∧ x.cell? ⟨l, 0, none⟩ = some (.pointer (some ⟨p, 0, none⟩)) ∧ x.cell? ⟨l, 1, none⟩ = some (.int .i64 W.gen)) (by kernel_rfl) (by kernel_rfl) (fun _ _ _ _ _ h => h) ?_
  simp only [pickOps, Array.getD_eq_getD_getElem?, List.getElem?_toArray, List.getElem?_cons_succ, List.getElem?_cons_zero, Option.getD_some]
  have h1 := hs.drew
  generalize w.drew = w1 at h1 ⊢
  clear hs
  have hS : ∀ x G, Sat u x (own b2 (.cells #[.pointer (some ⟨l, 0, none⟩)] 28 (0, 0)) * (own b3 (.cells #[.slice ab b.length cb] 34 (0, 0)) * (isL l p W * G))) → x.cell? ⟨b2, 0, none⟩ = some (.pointer (some ⟨l, 0, none⟩)) ∧ x.cell? ⟨b3, 0, none⟩ = some (.slice ab b.length cb) ∧ x.cell? ⟨l, 0, none⟩ = some (.pointer (some ⟨p, 0, none⟩)) ∧ x.cell? ⟨l, 1, none⟩ = some (.int .i64 W.gen) := fun x G h => by
    obtain ⟨_, k0, k1, _, _, _, _, _⟩ := isL_cells h.right.right
    exact ⟨h.cell 0, h.right.cell 0, k0, k1⟩
  repeat (first
    | (refine wpSeq_run (by rfl) (hS _ _ h1) (fun K hK => ⟨?_, ?_, ?_⟩); rotate_left; (· (intro wS hSw; have d1 := hSw.1; have d2 := hSw.2.1; have d3 := hSw.2.2.1; have d4 := hSw.2.2.2; go_simp <;> with_reducible rfl)); simp only [Act.put, List.setIfInBounds_toArray, List.set_cons_zero, List.set_cons_succ]; refine hK _ ?_; clear hK K)
    | (refine wpSeq_skip (by rfl) (hS _ _ h1) (fun K hK => ?_); simp only [Act.put, List.setIfInBounds_toArray, List.set_cons_zero, List.set_cons_succ]; refine hK _ ?_; clear hK K))
  refine wpSeq_act (by rfl) (fun K hK => ?_)
  go_simp
  have hfr := framed_any u w1 _ 75 (W.gen + 1) (.slice ab b.length cb) b (by omega) (by omega) (fun w' h => HB.out w' h.right.right.right.right) h1
  rw [show ((75 : UInt8).toNat : Int) = 75 from rfl, show ((W.gen + 1 : Nat) : Int) = (W.gen : Int) + 1 from by omega] at hfr
  refine hfr.mono ?_
  rintro e w2 ⟨a6, c6, rfl, h2⟩
  have HFL := Lib.hid (frameB_length 75 (W.gen + 1) b)
  clear hfr
  try dsimp only
  try simp only [Act.put, List.setIfInBounds_toArray, List.set_cons_zero, List.set_cons_succ]
  refine hK _ _ (_) ((fun _ h => h)) (hS _ _ h2.right) ?_
  clear hK K
  refine wpSeq_act (by rfl) (fun K hK => ?_)
  go_simp
  refine (dappend_any u w2 (ownB (.slice a6 (frameB 75 (W.gen + 1) b).length c6) (frameB 75 (W.gen + 1) b) * (own b2 (.cells #[.pointer (some ⟨l, 0, none⟩)] 28 (0, 0)) * (own b3 (.cells #[.slice ab b.length cb] 34 (0, 0)) * (isL l p W * F)))) p d tmpN (frameB 75 (W.gen + 1) b) a6 c6 (by decide) (by have := HFL.out; omega) (fun w' h => h.bytes) hmany (h2.eq (by ac_rfl))).mono ?_
  rintro e w3 ⟨rfl, h3⟩
  have h4 : Sat u w3 (own b2 (.cells #[.pointer (some ⟨l, 0, none⟩)] 28 (0, 0)) * (own b3 (.cells #[.slice ab b.length cb] 34 (0, 0)) * (isL l p W * (isD p (appendD d tmpN (frameB 75 (W.gen + 1) b)).2 * F)))) := (h3.eq (show _ = ownB (.slice a6 (frameB 75 (W.gen + 1) b).length c6) (frameB 75 (W.gen + 1) b) * (own b2 (.cells #[.pointer (some ⟨l, 0, none⟩)] 28 (0, 0)) * (own b3 (.cells #[.slice ab b.length cb] 34 (0, 0)) * (isL l p W * (isD p (appendD d tmpN (frameB 75 (W.gen + 1) b)).2 * F)))) by ac_rfl)).right
  clear h1 h2 h3
  try dsimp only
  try simp only [Act.put, List.setIfInBounds_toArray, List.set_cons_zero, List.set_cons_succ]
  refine hK _ _ (_) ((fun _ h => h)) (hS _ _ h4) ?_
  clear hK K
  repeat (first
    | (refine wpSeq_run (by rfl) (hS _ _ h4) (fun K hK => ⟨?_, ?_, ?_⟩); rotate_left; (· (intro wS hSw; go_simp <;> with_reducible rfl)); simp only [Act.put, List.setIfInBounds_toArray, List.set_cons_zero, List.set_cons_succ]; refine hK _ ?_; clear hK K)
    | (refine wpSeq_skip (by rfl) (hS _ _ h4) (fun K hK => ?_); simp only [Act.put, List.setIfInBounds_toArray, List.set_cons_zero, List.set_cons_succ]; refine hK _ ?_; clear hK K))
  refine wpSeq_end ?_
  have H4 := Lib.hid h4
  clear h4 hS HFL
  go_wp2_with fail
  go_ret
  exact ⟨rfl, H4.out⟩
end
end Go.Proofs.YtlfmkiclaijokaaGreatDoor
