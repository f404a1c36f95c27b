/- lies: the same lies on both disks. tells: a log tells of itself what the document's does. does: a call on both logs. -/
import Derived.Test.YtlfmkiclaijokaaGreatDoorMk36
import Derived.Test.YtlfmkiclaijokaaGreatDoorMk18
import Derived.Test.YtlfmkiclaijokaaGreatDoorMk2
import Derived.Test.YtlfmkiclaijokaaGreatDoorMk19
import Derived.Test.YtlfmkiclaijokaaGreatDoorMk21
import Derived.Deep.CutBlock
namespace Go.Proofs.YtlfmkiclaijokaaGreatDoor
open Go.RowKit
set_option linter.unusedVariables false

theorem isM_steps {u w : World} {F : HProp} {p : Nat} {d : DiskP} (h : Sat u w (isM p d * F)) : w.cell? ⟨p, 2, none⟩ = some (.int .i64 d.steps) := by
  obtain ⟨_, v, L, _, h2⟩ := isM_iff.1 h
  exact h2.cell 2

theorem dsteps_any (u w : World) (F : HProp) (p : Nat) (d : DiskP) (hs : Sat u w (isD p d * F)) :
    Calls Tryz.prog 101 #[.pointer (some ⟨p, 0, none⟩)] w fun e w' => e = .returned (.int .i64 d.steps) ∧ w = w' := by
  obtain ⟨ok, v, h2⟩ := isD_iff.1 hs
  have c2 := h2.cell 2
  go_enter Tryz.func101, Tryz.ntmps101
  go_wp2
  go_ret
  exact ⟨rfl, rfl⟩

theorem ownS_cell {u w : World} {F : HProp} {g c m : Nat} {T : List Bs} {j : Nat} {n : Bs} (h : Sat u w (ownS (.slice (some ⟨g, 0, none⟩) m c) T * F)) (hj : T[j]? = some n) : w.cell? ⟨g, j, none⟩ = some (.string (str n)) := by
  have h0 : RowAt w _ _ _ := Sat.row_at h
  rcases h0 with ⟨hv, _⟩ | ⟨a, c, hv, _, _, hc⟩
  · cases hv
  · cases hv
    have := hc j (.string (str n)) (by rw [List.getElem?_map, hj]; rfl)
    rwa [addr_add] at this

/-- No file has a name that none may have. -/
def goodD (d : DiskP) : Bool := d.files.all fun f => !badName f.name

theorem readD_file {d : DiskP} (ok : OkD d) (hg : goodD d = true) (ho : d.off = false) {k : Nat} {f : FileP} (hf : d.files[k]? = some f) : readD d f.name = (f.all, 0) := by
  have hm := List.mem_of_getElem? hf
  have hb : badName f.name = false := by
    have := List.all_eq_true.1 hg f hm
    simpa using this
  unfold readD barsD
  rw [ho, getF_mem ok.sorted.nodup hm]
  simp [hb]

section
variable (u w : World) (F : HProp) (p q : Nat) (d : DiskP)

set_option maxRecDepth 100000 in
set_option maxHeartbeats 8000000 in
theorem lies_any (hg : goodD d = true) (hs : Sat u w (isD p d * (isM q d * F))) :
    Calls Tryz.prog 56 #[.pointer (some ⟨p, 0, none⟩), .pointer (some ⟨q, 0, none⟩)] w fun e w' => e = .returned (.bool true) ∧ Sat u w' (isD p d * (isM q d * F)) := by
  have OK := Lib.hid (isD_iff.1 hs).1
  have HG := Lib.hid hg
  clear hg
  go_enter Tryz.func56, Tryz.ntmps56
  go_wp2_with fail
  refine (names_any u _ _ p d hs).mono ?_
  rintro e w1 ⟨an, cn, rfl, h1⟩
  dsimp only
  clear hs
  go_wp2_with fail
  refine (rfiles_any u _ _ q d (h1.eq (show _ = isM q d * (ownS (.slice an d.files.length cn) (d.files.map FileP.name) * (isD p d * F)) by ac_rfl))).mono ?_
  rintro e w2 ⟨af, cf, rfl, h2⟩
  dsimp only
  clear h1
  go_upto_region 3 with fail
  refine wp_region_seq [(0, true), (1, true), (2, true), (3, true), (4, true), (5, true), (6, true), (8, true), (9, true), (10, true), (11, true), (7, false), (12, true), (13, true), (14, true), (15, true), (17, true), (18, true), (19, true), (20, true), (16, false), (21, true), (22, true), (23, true), (24, true), (26, true), (25, false), (27, false), (28, true), (29, true)] (fun wS => Sat u wS (isMFs (.slice af d.files.length cf) d.files * (isM q d * (ownS (.slice an d.files.length cn) (d.files.map FileP.name) * (isD p d * F))))) (by kernel_rfl) (by kernel_rfl) (fun _ _ _ _ _ h => h) ?_
  simp only [pickOps, Array.getD_eq_getD_getElem?, List.getElem?_toArray, List.getElem?_cons_succ, List.getElem?_cons_zero, Option.getD_some]
  have h3 := h2.drew
  generalize w2.drew = w3 at h3 ⊢
  clear h2
  repeat (first
    | (refine wpSeq_run (by rfl) h3 (fun K hK => ⟨?_, ?_, ?_⟩); rotate_left; (· (intro wS hSw; have q2 := isM_steps hSw.right; have q4 := isM_off hSw.right; go_simp <;> with_reducible rfl)); simp only [Act.put, List.setIfInBounds_toArray, List.set_cons_zero, List.set_cons_succ]; refine hK _ ?_; clear hK K)
    | (refine wpSeq_skip (by rfl) h3 (fun K hK => ?_); simp only [Act.put, List.setIfInBounds_toArray, List.set_cons_zero, List.set_cons_succ]; refine hK _ ?_; clear hK K))
  refine wpSeq_act (by rfl) (fun K hK => ?_)
  go_simp
  refine (dsteps_any u w3 _ p d (h3.eq (show _ = isD p d * (isMFs (.slice af d.files.length cf) d.files * (isM q d * (ownS (.slice an d.files.length cn) (d.files.map FileP.name) * F))) by ac_rfl))).mono ?_
  rintro e w4 ⟨rfl, rfl⟩
  try dsimp only
  try simp only [Act.put, List.setIfInBounds_toArray, List.set_cons_zero, List.set_cons_succ]
  refine hK _ _ (_) ((fun _ h => h)) h3 ?_
  clear hK K
  repeat (first
    | (refine wpSeq_run (by rfl) h3 (fun K hK => ⟨?_, ?_, ?_⟩); rotate_left; (· (intro wS hSw; have q2 := isM_steps hSw.right; have q4 := isM_off hSw.right; go_simp <;> with_reducible rfl)); simp only [Act.put, List.setIfInBounds_toArray, List.set_cons_zero, List.set_cons_succ]; refine hK _ ?_; clear hK K)
    | (refine wpSeq_skip (by rfl) h3 (fun K hK => ?_); simp only [Act.put, List.setIfInBounds_toArray, List.set_cons_zero, List.set_cons_succ]; refine hK _ ?_; clear hK K))
  refine wpSeq_act (by rfl) (fun K hK => ?_)
  go_simp
  refine (doff_any u w3 _ p d (h3.eq (show _ = isD p d * (isMFs (.slice af d.files.length cf) d.files * (isM q d * (ownS (.slice an d.files.length cn) (d.files.map FileP.name) * F))) by ac_rfl))).mono ?_
  rintro e w4 ⟨rfl, rfl⟩
  try dsimp only
  try simp only [Act.put, List.setIfInBounds_toArray, List.set_cons_zero, List.set_cons_succ]
  refine hK _ _ (_) ((fun _ h => h)) h3 ?_
  clear hK K
  repeat (first
    | (refine wpSeq_run (by rfl) h3 (fun K hK => ⟨?_, ?_, ?_⟩); rotate_left; (· (intro wS hSw; have q4 := isM_off hSw.right; go_simp <;> with_reducible rfl)); simp only [Act.put, List.setIfInBounds_toArray, List.set_cons_zero, List.set_cons_succ]; refine hK _ ?_; clear hK K)
    | (refine wpSeq_skip (by rfl) h3 (fun K hK => ?_); simp only [Act.put, List.setIfInBounds_toArray, List.set_cons_zero, List.set_cons_succ]; refine hK _ ?_; clear hK K))
  refine wpSeq_act (by rfl) (fun K hK => ?_)
  go_simp
  refine (used_any u w3 _ p d (h3.eq (show _ = isD p d * (isMFs (.slice af d.files.length cf) d.files * (isM q d * (ownS (.slice an d.files.length cn) (d.files.map FileP.name) * F))) by ac_rfl))).mono ?_
  rintro e w4 ⟨rfl, h4⟩
  have h5 : Sat u w4 (isMFs (.slice af d.files.length cf) d.files * (isM q d * (ownS (.slice an d.files.length cn) (d.files.map FileP.name) * (isD p d * F)))) := h4.eq (by ac_rfl)
  clear h3 h4
  try dsimp only
  try simp only [Act.put, List.setIfInBounds_toArray, List.set_cons_zero, List.set_cons_succ]
  refine hK _ _ (_) ((fun _ h => h)) h5 ?_
  clear hK K
  refine wpSeq_act (by rfl) (fun K hK => ?_)
  go_simp
  refine (rused_any u w4 _ q d h5.s2).mono ?_
  rintro e w6 ⟨rfl, h6⟩
  have h7 := h6.s2
  clear h5 h6
  try dsimp only
  try simp only [Act.put, List.setIfInBounds_toArray, List.set_cons_zero, List.set_cons_succ]
  refine hK _ _ (_) ((fun _ h => h)) h7 ?_
  clear hK K
  repeat (first
    | (refine wpSeq_run (by rfl) h7 (fun K hK => ⟨?_, ?_, ?_⟩); rotate_left; (· (intro wS hSw; go_simp <;> with_reducible rfl)); simp only [Act.put, List.setIfInBounds_toArray, List.set_cons_zero, List.set_cons_succ]; refine hK _ ?_; clear hK K)
    | (refine wpSeq_skip (by rfl) h7 (fun K hK => ?_); simp only [Act.put, List.setIfInBounds_toArray, List.set_cons_zero, List.set_cons_succ]; refine hK _ ?_; clear hK K))
  refine wpSeq_end ?_
  obtain ⟨S, hS, h8⟩ := isMFs_iff.1 h7
  have hSl : S.length = d.files.length := by rw [← hS, List.length_map]
  have hmany : S.length ≤ 1000000 := by rw [hSl]; exact OK.out.many
  have h30 : Sat u w6 (ownS (.slice an d.files.length cn) (d.files.map FileP.name) * (ownRow 130 2 (.slice af S.length cf) S.length (S.flatMap cellsM) * (roM S * (isD p d * (isM q d * F))))) := by
    rw [hSl]
    rw [hSl] at h8
    exact h8.eq (by ac_rfl)
  have HS := Lib.hid hS
  have HSL := Lib.hid hSl
  have hdl9 : d.files.length ≤ 1000000 := OK.out.many
  generalize hof : d.off = of0
  have HOF := Lib.hid hof
  clear h7 h8 hS hSl hof
  go_wp2_with fail
  go_loopw [7] (fun t7 wr => ∃ k : Nat, k ≤ d.files.length ∧ t7 = .int .i64 k ∧ Sat u wr (ownS (.slice an d.files.length cn) (d.files.map FileP.name) * (ownRow 130 2 (.slice af S.length cf) S.length (S.flatMap cellsM) * (roM S * (isD p d * (isM q d * F)))))) (fun t _ => d.files.length - (intOf t).toNat)
  case atStart => exact ⟨0, Nat.zero_le _, rfl, h30⟩
  case round =>
    clear h30
    obtain ⟨k, hk, rfl, h9⟩ := hrel
    by_cases hlt : k < d.files.length
    · have hsk : k < S.length := by rw [HSL.out]; exact hlt
      obtain ⟨y, hy⟩ : ∃ y, S[k]? = some y := ⟨S[k]'hsk, List.getElem?_eq_getElem _⟩
      have hf : d.files[k]? = some y.1 := by rw [← HS.out, List.getElem?_map, hy]; rfl
      have hname : (d.files.map FileP.name)[k]? = some y.1.name := by rw [List.getElem?_map, hf]; rfl
      have hll : (d.files.map FileP.name).length = d.files.length := List.length_map _
      have hbad : badName y.1.name = false := by
        have := List.all_eq_true.1 HG.out y.1 (List.mem_of_getElem? hf)
        simpa using this
      have hnl : y.1.name.length ≤ 1000000000 := by
        have := hbad
        unfold badName at this
        simp only [Bool.or_eq_false_iff, decide_eq_false_iff_not] at this
        omega
      obtain ⟨gn, rfl, n0⟩ := ownS_get (a := an) (c := cn) (T := d.files.map FileP.name) (by rw [hll]; exact h9) hname
      obtain ⟨gf, rfl, hcm⟩ := Sat.fileM h9.s2 hy
      have y1 : (k : Int) < d.files.length := by omega
      have y2 : (k : Int) < S.length := by omega
      have NC := Lib.hid (fun (w' : World) (h' : Sat u w' (ownS (.slice (some ⟨gn, 0, none⟩) d.files.length cn) (d.files.map FileP.name) * (ownRow 130 2 (.slice (some ⟨gf, 0, none⟩) S.length cf) S.length (S.flatMap cellsM) * (roM S * (isD p d * (isM q d * F)))))) => ownS_cell h' hname)
      have MC := Lib.hid (fun (w' : World) (h' : Sat u w' (ownS (.slice (some ⟨gn, 0, none⟩) d.files.length cn) (d.files.map FileP.name) * (ownRow 130 2 (.slice (some ⟨gf, 0, none⟩) S.length cf) S.length (S.flatMap cellsM) * (roM S * (isD p d * (isM q d * F)))))) => hcm w' h'.s2)
      have OC := Lib.hid (fun (w' : World) (h' : Sat u w' (ownS (.slice (some ⟨gn, 0, none⟩) d.files.length cn) (d.files.map FileP.name) * (ownRow 130 2 (.slice (some ⟨gf, 0, none⟩) S.length cf) S.length (S.flatMap cellsM) * (roM S * (isD p d * (isM q d * F)))))) => (HOF.out ▸ isM_off (h'.s5) : w'.cell? ⟨q, 4, none⟩ = some (.bool of0)))
      have BC := Lib.hid (fun (w' : World) (h' : Sat u w' (ownS (.slice (some ⟨gn, 0, none⟩) d.files.length cn) (d.files.map FileP.name) * (ownRow 130 2 (.slice (some ⟨gf, 0, none⟩) S.length cf) S.length (S.flatMap cellsM) * (roM S * (isD p d * (isM q d * F)))))) => roM_get h'.s3 hy)
      have RD := Lib.hid (fun (ho : of0 = false) => readD_file OK.out HG.out (HOF.out.trans ho) hf)
      have HLT := Lib.hid hlt
      clear hy hf hname hll hbad hcm
      go_wp2_with fail
      refine (dread_any u wr _ p d y.1.name hnl h9.s4).mono ?_
      rintro e w7 ⟨a7, c7, rfl, h10⟩
      dsimp only
      have h10' : Sat u w7 (ownB (.slice a7 (readD d y.1.name).1.length c7) (readD d y.1.name).1 * (ownS (.slice (some ⟨gn, 0, none⟩) d.files.length cn) (d.files.map FileP.name) * (ownRow 130 2 (.slice (some ⟨gf, 0, none⟩) S.length cf) S.length (S.flatMap cellsM) * (roM S * (isD p d * (isM q d * F)))))) := h10.eq (by ac_rfl)
      clear h9 n0 h10
      go_upto_region 9 with fail
      rcases of0 with _ | _
      · have hrd := RD.out rfl
        rw [hrd] at h10' ⊢
        clear hrd
        refine wp_region_seq [(0, true), (1, true), (2, true), (3, true), (4, true), (5, true), (6, true), (7, true), (8, true), (9, true), (10, true), (11, true), (12, true), (13, true), (14, true), (15, true), (16, true), (17, true), (18, true), (19, true), (20, true), (21, true), (22, true), (23, true), (24, true), (25, true), (26, true), (27, true), (28, true), (29, true), (30, true), (31, true)] (fun wS => Sat u wS (ownB (.slice a7 y.1.all.length c7) y.1.all * (ownS (.slice (some ⟨gn, 0, none⟩) d.files.length cn) (d.files.map FileP.name) * (ownRow 130 2 (.slice (some ⟨gf, 0, none⟩) S.length cf) S.length (S.flatMap cellsM) * (roM S * (isD p d * (isM q d * F))))))) (by kernel_rfl) (by kernel_rfl) (fun _ _ _ _ _ h => h) ?_
        simp only [pickOps, Array.getD_eq_getD_getElem?, List.getElem?_toArray, List.getElem?_cons_succ, List.getElem?_cons_zero, Option.getD_some]
        have h11 : Sat u w7.drew (ownB (.slice a7 y.1.all.length c7) y.1.all * (ownS (.slice (some ⟨gn, 0, none⟩) d.files.length cn) (d.files.map FileP.name) * (ownRow 130 2 (.slice (some ⟨gf, 0, none⟩) S.length cf) S.length (S.flatMap cellsM) * (roM S * (isD p d * (isM q d * F)))))) := h10'.drew
        generalize w7.drew = w8 at h11 ⊢
        clear h10'
        repeat (first
          | (refine wpSeq_run (by rfl) h11 (fun K hK => ⟨?_, ?_, ?_⟩); rotate_left; (· (intro wS hSw; have n1 := NC.out _ hSw.right; have m1 := (MC.out _ hSw.right).1; have m2 := (MC.out _ hSw.right).2; have q4 := OC.out _ hSw.right; have cv1 := run_string_of (P := Tryz.prog) hSw.bytes 34 9 5 Tryz.underlying34 Tryz.underlying5 Tryz.underlying9; have cv2 := run_string_of (P := Tryz.prog) (BC.out _ hSw.right) 34 9 5 Tryz.underlying34 Tryz.underlying5 Tryz.underlying9; go_simp <;> with_reducible rfl)); simp only [Act.put, List.setIfInBounds_toArray, List.set_cons_zero, List.set_cons_succ]; refine hK _ ?_; clear hK K)
          | (refine wpSeq_skip (by rfl) h11 (fun K hK => ?_); simp only [Act.put, List.setIfInBounds_toArray, List.set_cons_zero, List.set_cons_succ]; refine hK _ ?_; clear hK K))
        refine wpSeq_end ?_
        have h12 := h11.right
        clear h11
        go_wp2_with fail
        go_roundw
        case rel => exact ⟨k + 1, HLT.out, by go_num, h12⟩
        case measure => have hl := HLT.out; simp [intOf]; omega
      · generalize readD d y.1.name = rr at h10' ⊢
        refine wp_region_seq [(0, true), (1, true), (2, true), (3, true), (4, true), (5, true), (6, true), (7, true), (8, true), (9, true), (10, true), (11, true), (12, true), (13, true), (14, true), (15, true), (16, true), (17, true), (18, true), (19, true), (20, true), (21, true), (22, true), (23, true), (24, true), (25, true), (26, true), (27, true), (28, true), (29, true), (30, true), (31, true)] (fun wS => Sat u wS (ownB (.slice a7 rr.1.length c7) rr.1 * (ownS (.slice (some ⟨gn, 0, none⟩) d.files.length cn) (d.files.map FileP.name) * (ownRow 130 2 (.slice (some ⟨gf, 0, none⟩) S.length cf) S.length (S.flatMap cellsM) * (roM S * (isD p d * (isM q d * F))))))) (by kernel_rfl) (by kernel_rfl) (fun _ _ _ _ _ h => h) ?_
        simp only [pickOps, Array.getD_eq_getD_getElem?, List.getElem?_toArray, List.getElem?_cons_succ, List.getElem?_cons_zero, Option.getD_some]
        have h11 : Sat u w7.drew (ownB (.slice a7 rr.1.length c7) rr.1 * (ownS (.slice (some ⟨gn, 0, none⟩) d.files.length cn) (d.files.map FileP.name) * (ownRow 130 2 (.slice (some ⟨gf, 0, none⟩) S.length cf) S.length (S.flatMap cellsM) * (roM S * (isD p d * (isM q d * F)))))) := h10'.drew
        generalize w7.drew = w8 at h11 ⊢
        clear h10'
        repeat (first
          | (refine wpSeq_run (by rfl) h11 (fun K hK => ⟨?_, ?_, ?_⟩); rotate_left; (· (intro wS hSw; have n1 := NC.out _ hSw.right; have m1 := (MC.out _ hSw.right).1; have q4 := OC.out _ hSw.right; go_simp <;> with_reducible rfl)); simp only [Act.put, List.setIfInBounds_toArray, List.set_cons_zero, List.set_cons_succ]; refine hK _ ?_; clear hK K)
          | (refine wpSeq_skip (by rfl) h11 (fun K hK => ?_); simp only [Act.put, List.setIfInBounds_toArray, List.set_cons_zero, List.set_cons_succ]; refine hK _ ?_; clear hK K))
        refine wpSeq_end ?_
        have h12 := h11.right
        clear h11
        go_wp2_with fail
        go_roundw
        case rel => exact ⟨k + 1, HLT.out, by go_num, h12⟩
        case measure => have hl := HLT.out; simp [intOf]; omega
    · have e : k = d.files.length := by omega
      subst e
      go_wp2_with fail
      go_ret
      exact ⟨rfl, h9.right.right.right⟩
end
end Go.Proofs.YtlfmkiclaijokaaGreatDoor

namespace Go.Proofs.YtlfmkiclaijokaaGreatDoor
open Go.RowKit
set_option linter.unusedVariables false

theorem lsize_any (u w : World) (F : HProp) (l p : Nat) (W : WalP) (hs : Sat u w (isL l p W * F)) : Calls Tryz.prog 21 #[.pointer (some ⟨l, 0, none⟩)] w fun e w' => e = .returned (.int .i64 W.size) ∧ w = w' := by
  obtain ⟨_, _, _, _, _, _, c5, _⟩ := isL_cells hs
  go_enter Tryz.func21, Tryz.ntmps21
  go_wp2_with fail
  go_ret
  exact ⟨rfl, rfl⟩

theorem isN_fields {u w : World} {F : HProp} {l p : Nat} {W : WalP} {a : Option Addr} {c : Nat} (h : Sat u w (own l (headN p (.slice a W.recs.length c) W) * F)) :
    w.cell? ⟨l, 1, none⟩ = some (.int .i64 W.gen) ∧ w.cell? ⟨l, 2, none⟩ = some (.string (str W.state)) ∧ w.cell? ⟨l, 3, none⟩ = some (.slice a W.recs.length c) ∧ w.cell? ⟨l, 4, none⟩ = some (.int .i64 W.sure) ∧ w.cell? ⟨l, 5, none⟩ = some (.int .i64 W.size) ∧ w.cell? ⟨l, 6, none⟩ = some (.int .i64 W.broken) :=
  ⟨h.cell 1, h.cell 2, h.cell 3, h.cell 4, h.cell 5, h.cell 6⟩

theorem scrV_of {u w : World} {F : HProp} {a : Option Addr} {n c : Nat} {xs : List UInt8} (hn : xs.length = n) (h : Sat u w (ownB (.slice a n c) xs * F)) : Sat u w (scrV 5 a n * F) := by
  subst hn
  rcases (Sat.scr_ofRow h).2 with ⟨ha, hx, h1⟩ | ⟨g, ha, h1⟩
  · subst hx
    exact Sat.scrV_iff.2 (.inl ⟨ha, rfl, h1⟩)
  · exact Sat.scrV_iff.2 (.inr ⟨g, ha, h1⟩)

section
variable (u w : World) (F : HProp) (l p k q : Nat) (W : WalP)

set_option maxRecDepth 100000 in
set_option maxHeartbeats 8000000 in
theorem tells_any (hs : Sat u w (isL l p W * (isN k q W * F))) :
    Calls Tryz.prog 57 #[.pointer (some ⟨l, 0, none⟩), .pointer (some ⟨k, 0, none⟩)] w fun e w' => e = .returned (.bool true) ∧ Sat u w' (isL l p W * (isN k q W * F)) := by
  obtain ⟨okn, ar, cr, h0⟩ := isN_iff.1 hs.s2
  have OKN := Lib.hid okn
  have hmany := okn.many
  have hst := okn.state
  have h00 : Sat u w (isL l p W * (own k (headN q (.slice ar W.recs.length cr) W) * (ownS (.slice ar W.recs.length cr) W.recs * F))) := h0.eq (by ac_rfl)
  clear hs h0 okn
  go_enter Tryz.func57, Tryz.ntmps57
  go_wp2_with fail
  go_loopw [5] (fun t5 wr => ∃ j : Nat, j ≤ 2 ∧ t5 = .int .i64 j ∧ Sat u wr (isL l p W * (own k (headN q (.slice ar W.recs.length cr) W) * (ownS (.slice ar W.recs.length cr) W.recs * F)))) (fun t _ => 2 - (intOf t).toNat)
  case atStart => exact ⟨0, Nat.zero_le _, rfl, h00⟩
  case round =>
    clear h00
    obtain ⟨j, hj, rfl, h1⟩ := hrel
    by_cases hlt : j < 2
    · have y1 : (j : Int) < 2 := by omega
      have HLT := Lib.hid hlt
      go_wp2_with fail
      refine (lstate_any u wr _ l p W h1).mono ?_
      rintro e w2 ⟨sa, sc, rfl, h2⟩
      dsimp only
      clear h1
      go_upto_region 5 with fail
      refine wp_region_seq [(0, true), (2, true), (3, true), (4, true), (5, true), (1, false), (6, true), (7, true), (8, true), (9, true), (10, true), (11, true), (12, true), (13, true), (14, true), (15, true), (16, true), (17, true), (19, true), (20, true), (21, true), (22, true), (23, true), (18, false), (24, true), (25, true), (26, true), (27, true), (29, true), (30, true), (31, true), (32, true), (28, false), (33, true), (34, true), (35, true), (36, true), (38, true), (39, true), (40, true), (41, true), (37, false), (42, true), (43, true), (44, true), (45, true), (47, true), (48, true), (49, true), (50, true), (46, false), (51, true), (52, true)] (fun wS => Sat u wS (ownB (.slice sa W.state.length sc) W.state * (isL l p W * (own k (headN q (.slice ar W.recs.length cr) W) * (ownS (.slice ar W.recs.length cr) W.recs * F))))) (by kernel_rfl) (by kernel_rfl) (fun _ _ _ _ _ h => h) ?_
      simp only [pickOps, Array.getD_eq_getD_getElem?, List.getElem?_toArray, List.getElem?_cons_succ, List.getElem?_cons_zero, Option.getD_some]
      have h3 := h2.drew
      generalize w2.drew = w3 at h3 ⊢
      clear h2
      repeat (first
        | (refine wpSeq_run (by rfl) h3 (fun K hK => ⟨?_, ?_, ?_⟩); rotate_left; (· (intro wS hSw; have n1 := (isN_fields hSw.right.right).1; go_simp <;> with_reducible rfl)); simp only [Act.put, List.setIfInBounds_toArray, List.set_cons_zero, List.set_cons_succ]; refine hK _ ?_; clear hK K)
        | (refine wpSeq_skip (by rfl) h3 (fun K hK => ?_); simp only [Act.put, List.setIfInBounds_toArray, List.set_cons_zero, List.set_cons_succ]; refine hK _ ?_; clear hK K))
      refine wpSeq_act (by rfl) (fun K hK => ?_)
      go_simp
      refine (lgeneration_any u w3 _ l p W h3.s2).mono ?_
      rintro e w4 ⟨rfl, rfl⟩
      try dsimp only
      try simp only [Act.put, List.setIfInBounds_toArray, List.set_cons_zero, List.set_cons_succ]
      refine hK _ _ (_) ((fun _ h => h)) h3 ?_
      clear hK K
      repeat (first
        | (refine wpSeq_run (by rfl) h3 (fun K hK => ⟨?_, ?_, ?_⟩); rotate_left; (· (intro wS hSw; have n2 := (isN_fields hSw.right.right).2.1; have n3 := (isN_fields hSw.right.right).2.2.1; have cv := run_string_of (P := Tryz.prog) hSw.bytes 34 9 5 Tryz.underlying34 Tryz.underlying5 Tryz.underlying9; go_simp <;> with_reducible rfl)); simp only [Act.put, List.setIfInBounds_toArray, List.set_cons_zero, List.set_cons_succ]; refine hK _ ?_; clear hK K)
        | (refine wpSeq_skip (by rfl) h3 (fun K hK => ?_); simp only [Act.put, List.setIfInBounds_toArray, List.set_cons_zero, List.set_cons_succ]; refine hK _ ?_; clear hK K))
      refine wpSeq_act (by rfl) (fun K hK => ?_)
      go_simp
      refine (lcount_any u w3 _ l p W h3.s2).mono ?_
      rintro e w4 ⟨rfl, rfl⟩
      try dsimp only
      try simp only [Act.put, List.setIfInBounds_toArray, List.set_cons_zero, List.set_cons_succ]
      refine hK _ _ (_) ((fun _ h => h)) h3 ?_
      clear hK K
      repeat (first
        | (refine wpSeq_run (by rfl) h3 (fun K hK => ⟨?_, ?_, ?_⟩); rotate_left; (· (intro wS hSw; have n4 := (isN_fields hSw.right.right).2.2.2.1; go_simp <;> with_reducible rfl)); simp only [Act.put, List.setIfInBounds_toArray, List.set_cons_zero, List.set_cons_succ]; refine hK _ ?_; clear hK K)
        | (refine wpSeq_skip (by rfl) h3 (fun K hK => ?_); simp only [Act.put, List.setIfInBounds_toArray, List.set_cons_zero, List.set_cons_succ]; refine hK _ ?_; clear hK K))
      refine wpSeq_act (by rfl) (fun K hK => ?_)
      go_simp
      refine (lsure_any u w3 _ l p W h3.s2).mono ?_
      rintro e w4 ⟨rfl, rfl⟩
      try dsimp only
      try simp only [Act.put, List.setIfInBounds_toArray, List.set_cons_zero, List.set_cons_succ]
      refine hK _ _ (_) ((fun _ h => h)) h3 ?_
      clear hK K
      repeat (first
        | (refine wpSeq_run (by rfl) h3 (fun K hK => ⟨?_, ?_, ?_⟩); rotate_left; (· (intro wS hSw; have n5 := (isN_fields hSw.right.right).2.2.2.2.1; go_simp <;> with_reducible rfl)); simp only [Act.put, List.setIfInBounds_toArray, List.set_cons_zero, List.set_cons_succ]; refine hK _ ?_; clear hK K)
        | (refine wpSeq_skip (by rfl) h3 (fun K hK => ?_); simp only [Act.put, List.setIfInBounds_toArray, List.set_cons_zero, List.set_cons_succ]; refine hK _ ?_; clear hK K))
      refine wpSeq_act (by rfl) (fun K hK => ?_)
      go_simp
      refine (lsize_any u w3 _ l p W h3.s2).mono ?_
      rintro e w4 ⟨rfl, rfl⟩
      try dsimp only
      try simp only [Act.put, List.setIfInBounds_toArray, List.set_cons_zero, List.set_cons_succ]
      refine hK _ _ (_) ((fun _ h => h)) h3 ?_
      clear hK K
      repeat (first
        | (refine wpSeq_run (by rfl) h3 (fun K hK => ⟨?_, ?_, ?_⟩); rotate_left; (· (intro wS hSw; have n6 := (isN_fields hSw.right.right).2.2.2.2.2; go_simp <;> with_reducible rfl)); simp only [Act.put, List.setIfInBounds_toArray, List.set_cons_zero, List.set_cons_succ]; refine hK _ ?_; clear hK K)
        | (refine wpSeq_skip (by rfl) h3 (fun K hK => ?_); simp only [Act.put, List.setIfInBounds_toArray, List.set_cons_zero, List.set_cons_succ]; refine hK _ ?_; clear hK K))
      refine wpSeq_act (by rfl) (fun K hK => ?_)
      go_simp
      refine (lbroken_any u w3 _ l p W h3.s2).mono ?_
      rintro e w4 ⟨rfl, rfl⟩
      try dsimp only
      try simp only [Act.put, List.setIfInBounds_toArray, List.set_cons_zero, List.set_cons_succ]
      refine hK _ _ (_) ((fun _ h => h)) h3 ?_
      clear hK K
      repeat (first
        | (refine wpSeq_run (by rfl) h3 (fun K hK => ⟨?_, ?_, ?_⟩); rotate_left; (· (intro wS hSw; go_simp <;> with_reducible rfl)); simp only [Act.put, List.setIfInBounds_toArray, List.set_cons_zero, List.set_cons_succ]; refine hK _ ?_; clear hK K)
        | (refine wpSeq_skip (by rfl) h3 (fun K hK => ?_); simp only [Act.put, List.setIfInBounds_toArray, List.set_cons_zero, List.set_cons_succ]; refine hK _ ?_; clear hK K))
      refine wpSeq_end ?_
      have h4 := scrV_of rfl h3
      clear h3
      go_wp2_with fail
      generalize hsn : W.state.length = sn at hst h4 ⊢
      have HSN := Lib.hid hsn
      clear hsn
      go_loopw [7] (fun t7 wr => ∃ i : Nat, i ≤ sn ∧ t7 = .int .i64 i ∧ Sat u wr (scrV 5 sa sn * (isL l p W * (own k (headN q (.slice ar W.recs.length cr) W) * (ownS (.slice ar W.recs.length cr) W.recs * F))))) (fun t _ => sn - (intOf t).toNat)
      case atStart => exact ⟨0, Nat.zero_le _, rfl, h4⟩
      case round =>
        clear h4
        obtain ⟨i, hi, rfl, h5⟩ := hrel
        by_cases hil : i < sn
        · rcases Sat.scrV_iff.1 h5 with ⟨_, h0, _⟩ | ⟨gs, rfl, h6⟩
          · omega
          obtain ⟨x, c0, f0⟩ := Sat.scr_get h6 hil
          have h7 := Sat.scr_set h6 i (IntKind.u8.wrap (x + 1))
          have y2 : (i : Int) < sn := by omega
          have HIL := Lib.hid hil
          have h8 := Lib.hid (Sat.scrV_iff.2 (.inr ⟨gs, rfl, h7⟩))
          clear h5 h6 h7
          go_wp2_with fail
          exact ⟨⟨i + 1, HIL.out, rfl, h8.out⟩, by have hl := HIL.out; simp [intOf]; omega⟩
        · have e : i = sn := by omega
          subst e
          have h6 : Sat u wr (isL l p W * (own k (headN q (.slice ar W.recs.length cr) W) * (ownS (.slice ar W.recs.length cr) W.recs * F))) := by
            rcases Sat.scrV_iff.1 h5 with ⟨_, _, h6⟩ | ⟨gs, _, h6⟩
            · exact h6
            · exact h6.right
          clear h5
          go_wp2_with fail
          go_loopw [8] (fun t8 wr => ∃ m : Nat, m ≤ W.recs.length + 2 ∧ t8 = .int .i64 ((m : Int) - 1) ∧ Sat u wr (isL l p W * (own k (headN q (.slice ar W.recs.length cr) W) * (ownS (.slice ar W.recs.length cr) W.recs * F)))) (fun t _ => (W.recs.length + 1 - (intOf t)).toNat)
          case atStart => exact ⟨0, Nat.zero_le _, rfl, h6⟩
          case round =>
            clear h6
            obtain ⟨m, hm, rfl, h7⟩ := hrel
            have n3 := (isN_fields h7.right).2.2.1
            by_cases hml : m < W.recs.length + 2
            · have HML := Lib.hid hml
              have y2 : (m : Int) - 1 ≤ W.recs.length := by omega
              have e1 : IntKind.i64.wrap ((m : Int) - 1 + 1) = ((m + 1 : Nat) : Int) - 1 := by rw [IntWalk.i64_in _ (by omega)]; omega
              by_cases hin : 0 < m ∧ m < W.recs.length + 1
              · obtain ⟨h0m, hml2⟩ := hin
                obtain ⟨i2, rfl⟩ : ∃ i2, m = i2 + 1 := ⟨m - 1, by omega⟩
                have hi2 : i2 < W.recs.length := by omega
                obtain ⟨bb, hbb⟩ : ∃ bb, W.recs[i2]? = some bb := ⟨_, List.getElem?_eq_getElem hi2⟩
                have e2 : (((i2 + 1 : Nat) : Int) - 1) = (i2 : Int) := by omega
                rw [e2] at y2 e1 ⊢
                obtain ⟨gr, rfl, _⟩ := ownS_get h7.right.right hbb
                have HBB := Lib.hid hbb
                have y3 : (i2 : Int) < W.recs.length := by omega
                clear hbb h0m hml2 hml e2
                go_wp2_with fail
                refine (lrecord_yes u wr _ l p W i2 bb HBB.out h7).mono ?_
                rintro e w8 ⟨ab, cb, rfl, h8⟩
                dsimp only
                clear h7 n3
                have n3 := (isN_fields h8.right.right).2.2.1
                go_upto_region 16 with fail
                refine wp_region_seq [(0, true), (1, true), (2, true), (3, true), (4, true), (5, true), (6, true), (7, true), (8, true), (9, true), (10, true), (11, true), (12, true), (13, true), (14, true), (15, true), (16, true), (17, true), (18, true), (19, true), (20, true), (21, true), (22, true), (23, true), (24, true), (25, true), (26, true)] (fun wS => Sat u wS (ownB (.slice ab bb.length cb) bb * (isL l p W * (own k (headN q (.slice (some ⟨gr, 0, none⟩) W.recs.length cr) W) * (ownS (.slice (some ⟨gr, 0, none⟩) W.recs.length cr) W.recs * F))))) (by kernel_rfl) (by kernel_rfl) (fun _ _ _ _ _ h => h) ?_
                simp only [pickOps, Array.getD_eq_getD_getElem?, List.getElem?_toArray, List.getElem?_cons_succ, List.getElem?_cons_zero, Option.getD_some]
                have h9 := h8.drew
                generalize w8.drew = w9 at h9 ⊢
                clear h8 n3
                repeat (first
                  | (refine wpSeq_run (by rfl) h9 (fun K hK => ⟨?_, ?_, ?_⟩); rotate_left; (· (intro wS hSw; have n3 := (isN_fields hSw.right.right).2.2.1; have n4 := ownS_cell hSw.right.right.right HBB.out; have cv := run_string_of (P := Tryz.prog) hSw.bytes 34 9 5 Tryz.underlying34 Tryz.underlying5 Tryz.underlying9; go_simp <;> with_reducible rfl)); simp only [Act.put, List.setIfInBounds_toArray, List.set_cons_zero, List.set_cons_succ]; refine hK _ ?_; clear hK K)
                  | (refine wpSeq_skip (by rfl) h9 (fun K hK => ?_); simp only [Act.put, List.setIfInBounds_toArray, List.set_cons_zero, List.set_cons_succ]; refine hK _ ?_; clear hK K))
                refine wpSeq_end ?_
                have h10 := scrV_of rfl h9
                clear h9
                have hbl : bb.length ≤ 100000000 := OKN.out.recs bb (List.mem_of_getElem? HBB.out)
                go_wp2_with fail
                generalize bb.length = bn at h10 hbl ⊢
                go_loopw [12] (fun t12 wr => ∃ i : Nat, i ≤ bn ∧ t12 = .int .i64 i ∧ Sat u wr (scrV 5 ab bn * (isL l p W * (own k (headN q (.slice (some ⟨gr, 0, none⟩) W.recs.length cr) W) * (ownS (.slice (some ⟨gr, 0, none⟩) W.recs.length cr) W.recs * F))))) (fun t _ => bn - (intOf t).toNat)
                case atStart => exact ⟨0, Nat.zero_le _, rfl, h10⟩
                case round =>
                  clear h10
                  obtain ⟨i, hi, rfl, h11⟩ := hrel
                  by_cases hil : i < bn
                  · rcases Sat.scrV_iff.1 h11 with ⟨_, h0, _⟩ | ⟨gs, rfl, h12⟩
                    · omega
                    obtain ⟨x, c0, f0⟩ := Sat.scr_get h12 hil
                    have h13 := Sat.scr_set h12 i (IntKind.u8.wrap (x + 1))
                    have y5 : (i : Int) < bn := by omega
                    have HIL := Lib.hid hil
                    have h14 := Lib.hid (Sat.scrV_iff.2 (.inr ⟨gs, rfl, h13⟩))
                    clear h11 h12 h13
                    go_wp2_with fail
                    exact ⟨⟨i + 1, HIL.out, rfl, h14.out⟩, by have hl := HIL.out; simp [intOf]; omega⟩
                  · have e : i = bn := by omega
                    subst e
                    have h12 : Sat u wr (isL l p W * (own k (headN q (.slice (some ⟨gr, 0, none⟩) W.recs.length cr) W) * (ownS (.slice (some ⟨gr, 0, none⟩) W.recs.length cr) W.recs * F))) := by
                      rcases Sat.scrV_iff.1 h11 with ⟨_, _, h6⟩ | ⟨gs, _, h6⟩
                      · exact h6
                      · exact h6.right
                    clear h11
                    go_wp2_with fail
                    exact ⟨⟨i2 + 2, by have := HML.out; omega, congrArg (Value.int .i64) (by omega), h12⟩, by simp [intOf]; omega⟩
              · by_cases hm0 : m = 0
                · subst hm0
                  rw [show (((0 : Nat) : Int) - 1) = -1 from rfl] at y2 e1 ⊢
                  have HNO : (-1 : Int) < 0 ∨ (W.recs.length : Int) ≤ -1 := .inl (by decide)
                  clear hin hml
                  skip
                  go_wp2_with fail
                  refine (lrecord_no u wr _ l p W (-1) HNO h7).mono ?_
                  rintro e w8 ⟨rfl, rfl⟩
                  dsimp only
                  go_upto_region 16 with fail
                  refine wp_region_seq [(0, true), (1, true), (2, true), (3, true), (4, true), (5, true), (6, true), (7, true), (8, true), (9, true), (10, true), (11, true), (12, true), (13, true), (14, true), (15, true), (16, true), (17, true), (18, true), (19, true), (20, true), (21, true), (22, true), (23, true), (24, true), (25, true), (26, true)] (fun wS => Sat u wS (isL l p W * (own k (headN q (.slice ar W.recs.length cr) W) * (ownS (.slice ar W.recs.length cr) W.recs * F)))) (by kernel_rfl) (by kernel_rfl) (fun _ _ _ _ _ h => h) ?_
                  simp only [pickOps, Array.getD_eq_getD_getElem?, List.getElem?_toArray, List.getElem?_cons_succ, List.getElem?_cons_zero, Option.getD_some]
                  have h9 := h7.drew
                  generalize wr.drew = w9 at h9 ⊢
                  clear h7 n3
                  repeat (first
                    | (refine wpSeq_run (by rfl) h9 (fun K hK => ⟨?_, ?_, ?_⟩); rotate_left; (· (intro wS hSw; go_simp <;> with_reducible rfl)); simp only [Act.put, List.setIfInBounds_toArray, List.set_cons_zero, List.set_cons_succ]; refine hK _ ?_; clear hK K)
                    | (refine wpSeq_skip (by rfl) h9 (fun K hK => ?_); simp only [Act.put, List.setIfInBounds_toArray, List.set_cons_zero, List.set_cons_succ]; refine hK _ ?_; clear hK K))
                  refine wpSeq_end ?_
                  go_wp2_with fail
                  go_loopw [12] (fun t12 wr => t12 = .int .i64 0 ∧ Sat u wr (isL l p W * (own k (headN q (.slice ar W.recs.length cr) W) * (ownS (.slice ar W.recs.length cr) W.recs * F)))) (fun _ _ => 0)
                  case atStart => exact ⟨rfl, h9⟩
                  case round =>
                    clear h9
                    obtain ⟨rfl, h10⟩ := hrel
                    go_wp2_with fail
                    exact ⟨⟨1, by omega, congrArg (Value.int .i64) (by omega), h10⟩, by first | (simp [intOf]; done) | (simp [intOf]; omega)⟩
                · have hme : m = W.recs.length + 1 := by omega
                  subst hme
                  have e2 : (((W.recs.length + 1 : Nat) : Int) - 1) = (W.recs.length : Int) := by omega
                  rw [e2] at y2 e1 ⊢
                  have HNO : (W.recs.length : Int) < 0 ∨ (W.recs.length : Int) ≤ (W.recs.length : Int) := .inr (Int.le_refl _)
                  have y6 : (0 : Int) ≤ W.recs.length := by omega
                  have y7 : ¬ (W.recs.length : Int) < W.recs.length := by omega
                  clear hin hml e2 hm0
                  skip
                  go_wp2_with fail
                  refine (lrecord_no u wr _ l p W (W.recs.length) HNO h7).mono ?_
                  rintro e w8 ⟨rfl, rfl⟩
                  dsimp only
                  go_upto_region 16 with fail
                  refine wp_region_seq [(0, true), (1, true), (2, true), (3, true), (4, true), (5, true), (6, true), (7, true), (8, true), (9, true), (10, true), (11, true), (12, true), (13, true), (14, true), (15, true), (16, true), (17, true), (18, true), (19, true), (20, true), (21, true), (22, true), (23, true), (24, true), (25, true), (26, true)] (fun wS => Sat u wS (isL l p W * (own k (headN q (.slice ar W.recs.length cr) W) * (ownS (.slice ar W.recs.length cr) W.recs * F)))) (by kernel_rfl) (by kernel_rfl) (fun _ _ _ _ _ h => h) ?_
                  simp only [pickOps, Array.getD_eq_getD_getElem?, List.getElem?_toArray, List.getElem?_cons_succ, List.getElem?_cons_zero, Option.getD_some]
                  have h9 := h7.drew
                  generalize wr.drew = w9 at h9 ⊢
                  clear h7 n3
                  repeat (first
                    | (refine wpSeq_run (by rfl) h9 (fun K hK => ⟨?_, ?_, ?_⟩); rotate_left; (· (intro wS hSw; go_simp <;> with_reducible rfl)); simp only [Act.put, List.setIfInBounds_toArray, List.set_cons_zero, List.set_cons_succ]; refine hK _ ?_; clear hK K)
                    | (refine wpSeq_skip (by rfl) h9 (fun K hK => ?_); simp only [Act.put, List.setIfInBounds_toArray, List.set_cons_zero, List.set_cons_succ]; refine hK _ ?_; clear hK K))
                  refine wpSeq_end ?_
                  go_wp2_with fail
                  go_loopw [12] (fun t12 wr => t12 = .int .i64 0 ∧ Sat u wr (isL l p W * (own k (headN q (.slice ar W.recs.length cr) W) * (ownS (.slice ar W.recs.length cr) W.recs * F)))) (fun _ _ => 0)
                  case atStart => exact ⟨rfl, h9⟩
                  case round =>
                    clear h9
                    obtain ⟨rfl, h10⟩ := hrel
                    go_wp2_with fail
                    exact ⟨⟨W.recs.length + 2, by omega, congrArg (Value.int .i64) (by omega), h10⟩, by first | (simp [intOf]; done) | (simp [intOf]; omega)⟩
            · have e : m = W.recs.length + 2 := by omega
              subst e
              have e2 : (((W.recs.length + 2 : Nat) : Int) - 1) = (W.recs.length : Int) + 1 := by omega
              have y2 : ¬ (W.recs.length : Int) + 1 ≤ W.recs.length := by omega
              rw [e2]
              clear hml e2
              go_wp2_with fail
              go_roundw
              case rel => exact ⟨j + 1, HLT.out, by go_num, h7⟩
              case measure => have hl := HLT.out; simp [intOf]; omega
    · have e : j = 2 := by omega
      subst e
      go_wp2_with fail
      go_ret
      exact ⟨rfl, (isN_iff.2 ⟨OKN.out, ar, cr, h1.eq (show _ = own k (headN q (.slice ar W.recs.length cr) W) * (ownS (.slice ar W.recs.length cr) W.recs * (isL l p W * F)) by ac_rfl)⟩).s2⟩
end
end Go.Proofs.YtlfmkiclaijokaaGreatDoor

namespace Go.Proofs.YtlfmkiclaijokaaGreatDoor
open Go.RowKit
set_option linter.unusedVariables false

/-- What a call does. -/
def doesW (kind : Nat) (d : DiskP) (W : WalP) (b : Bs) : Int × WalP × DiskP :=
  if kind % 12 = 4 ∨ kind % 12 = 5 then commitW d W else if kind % 12 = 6 then checkW d W b else appendW d W b

def callO (x : CallV) : Obj := .cells #[.int .u8 (x.kind : Nat), .string x.name, x.vb, .int .i64 x.n, x.vk] 36 (0, 0)

section
variable (u w : World) (F : HProp) (l p k q : Nat) (W : WalP) (d : DiskP) (x : CallV)

/-- What does leaves. -/
def DoneBoth (u : World) (F : HProp) (l p k q : Nat) (R : Int × WalP × DiskP) (e : Ending) (w' : World) : Prop :=
  e = .returned (.bool true) ∧ Sat u w' (isL l p R.2.1 * (isN k q R.2.1 * (isD p R.2.2 * (isM q R.2.2 * F))))

set_option maxRecDepth 100000 in
set_option maxHeartbeats 8000000 in
theorem does_any (hk : x.kind < 256) (hbl : x.b.length ≤ 10000) (hb : ∀ w', Sat u w' F → BytesAt w' x.vb x.b) (hmany : d.files.length < 999990) (hrm : W.recs.length < 1000000) (hsz : W.size ≤ 900000000) (hg99 : W.gen + 1 < 100)
    (hs : Sat u w (isL l p W * (isN k q W * (isD p d * (isM q d * F))))) :
    Calls Tryz.prog 62 #[.pointer (some ⟨l, 0, none⟩), .pointer (some ⟨k, 0, none⟩), .agg #[.int .u8 (x.kind : Nat), .string x.name, x.vb, .int .i64 x.n, x.vk]] w (DoneBoth u F l p k q (doesW x.kind d W x.b)) := by
  have HB := Lib.hid hb
  have h1 := hs.alloc (callO x)
  simp only [callO] at h1
  clear hs hb
  go_enter Tryz.func62, Tryz.ntmps62
  go_upto_region 1 with fail
  generalize w.heap.size = bx at h1 ⊢
  generalize w.alloc (.cells #[.int .u8 (x.kind : Nat), .string x.name, x.vb, .int .i64 x.n, x.vk] 36) = w1 at h1 ⊢
  have c2 := h1.cell 2
  have cv := run_string_of (P := Tryz.prog) (HB.out w1 h1.right.right.right.right.right) 34 9 5 Tryz.underlying34 Tryz.underlying5 Tryz.underlying9
  have hss : (str x.b).size ≤ 1000000000 := by rw [str_size]; omega
  go_upto_region 2 with (refine wpList_toBytes rfl 9 34 5 _ rfl (str x.b) rfl Tryz.underlying9 Tryz.underlying34 Tryz.underlying5 h1 hss ?_; intro a5 c5 w5 h5)
  rw [str_data] at h5
  simp only [str_size] at h5 ⊢
  have h6 : Sat u w5 (own bx (.cells #[.int .u8 (x.kind : Nat), .string x.name, x.vb, .int .i64 x.n, x.vk] 36 (0, 0)) * (ownT 5 (.slice (some a5) x.b.length c5) x.b * (isL l p W * (isN k q W * (isD p d * (isM q d * F)))))) := h5.s2
  clear c2 cv h1 h5 hss
  have k0 := h6.cell 0
  go_upto_block 0 with fail
  have hk12 : (x.kind : Int) % 12 = ((x.kind % 12 : Nat) : Int) := by omega
  have HD : Hid (doesW x.kind d W x.b = if x.kind % 12 = 4 ∨ x.kind % 12 = 5 then commitW d W else if x.kind % 12 = 6 then checkW d W x.b else appendW d W x.b) := Lib.hid rfl
  rw [hk12]
  clear hk12
  have hk12 : x.kind % 12 < 12 := Nat.mod_lt _ (by decide)
  generalize x.kind % 12 = k12 at HD hk12 ⊢
  go_cut [8, 9] (fun t8 t9 wx => t8 = .int .i64 (doesW x.kind d W x.b).1 ∧ t9 = .int .i64 (doesW x.kind d W x.b).1 ∧ Sat u wx (own bx (.cells #[.int .u8 (x.kind : Nat), .string x.name, x.vb, .int .i64 x.n, x.vk] 36 (0, 0)) * (ownT 5 (.slice (some a5) x.b.length c5) x.b * (isL l p (doesW x.kind d W x.b).2.1 * (isN k q (doesW x.kind d W x.b).2.1 * (isD p (doesW x.kind d W x.b).2.2 * (isM q (doesW x.kind d W x.b).2.2 * F)))))))
  case first J K' hJ hmet =>
    have HJ := Lib.hid hJ
    clear hJ
    by_cases c4 : k12 = 4 ∨ k12 = 5
    · have hd := HD.out
      rw [if_pos c4] at hd
      have HD2 := Lib.hid hd
      clear hd
      have h7 : Sat u w5 (isL l p W * (isD p d * (own bx (.cells #[.int .u8 (x.kind : Nat), .string x.name, x.vb, .int .i64 x.n, x.vk] 36 (0, 0)) * (ownT 5 (.slice (some a5) x.b.length c5) x.b * (isN k q W * (isM q d * F)))))) := h6.eq (by ac_rfl)
      clear h6 k0
      rcases c4 with rfl | rfl
      · go_wp2_with fail
        refine (lcommit_any u w5 _ l p W d h7).mono ?_
        rintro e w8 ⟨rfl, h8⟩
        dsimp only
        clear h7
        go_wp2_with fail
        refine (ncommit_any u w8 _ k q W d (h8.eq (show _ = isN k q W * (isM q d * (own bx (.cells #[.int .u8 (x.kind : Nat), .string x.name, x.vb, .int .i64 x.n, x.vk] 36 (0, 0)) * (ownT 5 (.slice (some a5) x.b.length c5) x.b * (isL l p (commitW d W).2.1 * (isD p (commitW d W).2.2 * F))))) by ac_rfl))).mono ?_
        rintro e w9 ⟨rfl, h9⟩
        dsimp only
        have h10 : Sat u w9 (own bx (.cells #[.int .u8 (x.kind : Nat), .string x.name, x.vb, .int .i64 x.n, x.vk] 36 (0, 0)) * (ownT 5 (.slice (some a5) x.b.length c5) x.b * (isL l p (commitW d W).2.1 * (isN k q (commitW d W).2.1 * (isD p (commitW d W).2.2 * (isM q (commitW d W).2.2 * F)))))) := h9.eq (by ac_rfl)
        clear h8 h9
        go_wp2_with fail
        have hJ := HJ.out
        go_meet
        rw [HD2.out]
        exact ⟨rfl, rfl, h10⟩
      · go_wp2_with fail
        refine (lcommit_any u w5 _ l p W d h7).mono ?_
        rintro e w8 ⟨rfl, h8⟩
        dsimp only
        clear h7
        go_wp2_with fail
        refine (ncommit_any u w8 _ k q W d (h8.eq (show _ = isN k q W * (isM q d * (own bx (.cells #[.int .u8 (x.kind : Nat), .string x.name, x.vb, .int .i64 x.n, x.vk] 36 (0, 0)) * (ownT 5 (.slice (some a5) x.b.length c5) x.b * (isL l p (commitW d W).2.1 * (isD p (commitW d W).2.2 * F))))) by ac_rfl))).mono ?_
        rintro e w9 ⟨rfl, h9⟩
        dsimp only
        have h10 : Sat u w9 (own bx (.cells #[.int .u8 (x.kind : Nat), .string x.name, x.vb, .int .i64 x.n, x.vk] 36 (0, 0)) * (ownT 5 (.slice (some a5) x.b.length c5) x.b * (isL l p (commitW d W).2.1 * (isN k q (commitW d W).2.1 * (isD p (commitW d W).2.2 * (isM q (commitW d W).2.2 * F)))))) := h9.eq (by ac_rfl)
        clear h8 h9
        go_wp2_with fail
        have hJ := HJ.out
        go_meet
        rw [HD2.out]
        exact ⟨rfl, rfl, h10⟩
    have n4 : ((k12 : Int) == 4) = false := by rw [beq_eq_false_iff_ne]; omega
    have n5 : ((k12 : Int) == 5) = false := by rw [beq_eq_false_iff_ne]; omega
    have hd := HD.out
    rw [if_neg c4] at hd
    by_cases c6 : k12 = 6
    · rw [if_pos c6] at hd
      have HD2 := Lib.hid hd
      have n6 : ((k12 : Int) == 6) = true := by rw [beq_iff_eq]; omega
      clear hd c4 c6
      go_upto_region 9 with fail
      refine wp_region_seq [(0, true), (1, true), (3, true), (4, true), (5, true), (6, true), (2, false), (7, false), (8, true), (9, true)] (fun y => ∃ G, Sat u y (own bx (.cells #[.int .u8 (x.kind : Nat), .string x.name, x.vb, .int .i64 x.n, x.vk] 36 (0, 0)) * (G * F))) (by kernel_rfl) (by kernel_rfl) (fun _ _ _ _ _ h => h) ?_
      simp only [pickOps, Array.getD_eq_getD_getElem?, List.getElem?_toArray, List.getElem?_cons_succ, List.getElem?_cons_zero, Option.getD_some]
      have h7 : Sat u w5.drew (own bx (.cells #[.int .u8 (x.kind : Nat), .string x.name, x.vb, .int .i64 x.n, x.vk] 36 (0, 0)) * (ownT 5 (.slice (some a5) x.b.length c5) x.b * (isL l p W * (isN k q W * (isD p d * (isM q d * F)))))) := h6.drew
      generalize w5.drew = w7 at h7 ⊢
      clear h6 k0
      have h8 : Sat u w7 (own bx (.cells #[.int .u8 (x.kind : Nat), .string x.name, x.vb, .int .i64 x.n, x.vk] 36 (0, 0)) * ((ownT 5 (.slice (some a5) x.b.length c5) x.b * (isL l p W * (isN k q W * (isD p d * isM q d)))) * F)) := h7.eq (by ac_rfl)
      repeat (first
        | (refine wpSeq_run (by rfl) ⟨_, h8⟩ (fun K hK => ⟨?_, ?_, ?_⟩); rotate_left; (· (intro wS hSw; have q2 := hSw.choose_spec.cell 2; have cv := run_string_of (P := Tryz.prog) (HB.out _ hSw.choose_spec.right.right) 34 9 5 Tryz.underlying34 Tryz.underlying5 Tryz.underlying9; go_simp <;> with_reducible rfl)); simp only [Act.put, List.setIfInBounds_toArray, List.set_cons_zero, List.set_cons_succ]; refine hK _ ?_; clear hK K)
        | (refine wpSeq_skip (by rfl) ⟨_, h8⟩ (fun K hK => ?_); simp only [Act.put, List.setIfInBounds_toArray, List.set_cons_zero, List.set_cons_succ]; refine hK _ ?_; clear hK K))
      refine wpSeq_act (by rfl) (fun K hK => ?_)
      go_simp
      refine (lcheck_any u w7 (own bx (.cells #[.int .u8 (x.kind : Nat), .string x.name, x.vb, .int .i64 x.n, x.vk] 36 (0, 0)) * (ownT 5 (.slice (some a5) x.b.length c5) x.b * (isN k q W * (isM q d * F)))) l p W d x.b (some a5) c5 (by omega) (fun w' h => h.right.ownT_at) hmany hg99 (h7.eq (by ac_rfl))).mono ?_
      rintro e w8 ⟨rfl, h9⟩
      try dsimp only
      try simp only [Act.put, List.setIfInBounds_toArray, List.set_cons_zero, List.set_cons_succ]
      refine hK _ _ (_) ((fun _ h => h)) ⟨_, h9.eq (show _ = own bx (.cells #[.int .u8 (x.kind : Nat), .string x.name, x.vb, .int .i64 x.n, x.vk] 36 (0, 0)) * ((ownT 5 (.slice (some a5) x.b.length c5) x.b * (isL l p (checkW d W x.b).2.1 * (isN k q W * (isD p (checkW d W x.b).2.2 * isM q d)))) * F) by ac_rfl)⟩ ?_
      clear hK K
      refine wpSeq_act (by rfl) (fun K hK => ?_)
      go_simp
      refine (ncheck_any u w8 (own bx (.cells #[.int .u8 (x.kind : Nat), .string x.name, x.vb, .int .i64 x.n, x.vk] 36 (0, 0)) * (ownT 5 (.slice (some a5) x.b.length c5) x.b * (isL l p (checkW d W x.b).2.1 * (isD p (checkW d W x.b).2.2 * F)))) k q W d x.b (by omega) hmany hg99 (h9.eq (by ac_rfl))).mono ?_
      rintro e w9 ⟨rfl, h10⟩
      have h11 : Sat u w9 (own bx (.cells #[.int .u8 (x.kind : Nat), .string x.name, x.vb, .int .i64 x.n, x.vk] 36 (0, 0)) * (ownT 5 (.slice (some a5) x.b.length c5) x.b * (isL l p (checkW d W x.b).2.1 * (isN k q (checkW d W x.b).2.1 * (isD p (checkW d W x.b).2.2 * (isM q (checkW d W x.b).2.2 * F)))))) := h10.eq (by ac_rfl)
      try dsimp only
      try simp only [Act.put, List.setIfInBounds_toArray, List.set_cons_zero, List.set_cons_succ]
      refine hK _ _ (_) ((fun _ h => h)) ⟨_, h11.eq (show _ = own bx (.cells #[.int .u8 (x.kind : Nat), .string x.name, x.vb, .int .i64 x.n, x.vk] 36 (0, 0)) * ((ownT 5 (.slice (some a5) x.b.length c5) x.b * (isL l p (checkW d W x.b).2.1 * (isN k q (checkW d W x.b).2.1 * (isD p (checkW d W x.b).2.2 * isM q (checkW d W x.b).2.2)))) * F) by ac_rfl)⟩ ?_
      clear hK K
      repeat (first
        | (refine wpSeq_run (by rfl) ⟨_, h11.eq (show _ = own bx (.cells #[.int .u8 (x.kind : Nat), .string x.name, x.vb, .int .i64 x.n, x.vk] 36 (0, 0)) * ((ownT 5 (.slice (some a5) x.b.length c5) x.b * (isL l p (checkW d W x.b).2.1 * (isN k q (checkW d W x.b).2.1 * (isD p (checkW d W x.b).2.2 * isM q (checkW d W x.b).2.2)))) * F) by ac_rfl)⟩ (fun K hK => ⟨?_, ?_, ?_⟩); rotate_left; (· (intro wS hSw; go_simp <;> with_reducible rfl)); simp only [Act.put, List.setIfInBounds_toArray, List.set_cons_zero, List.set_cons_succ]; refine hK _ ?_; clear hK K)
        | (refine wpSeq_skip (by rfl) ⟨_, h11.eq (show _ = own bx (.cells #[.int .u8 (x.kind : Nat), .string x.name, x.vb, .int .i64 x.n, x.vk] 36 (0, 0)) * ((ownT 5 (.slice (some a5) x.b.length c5) x.b * (isL l p (checkW d W x.b).2.1 * (isN k q (checkW d W x.b).2.1 * (isD p (checkW d W x.b).2.2 * isM q (checkW d W x.b).2.2)))) * F) by ac_rfl)⟩ (fun K hK => ?_); simp only [Act.put, List.setIfInBounds_toArray, List.set_cons_zero, List.set_cons_succ]; refine hK _ ?_; clear hK K))
      refine wpSeq_end ?_
      have hJ := HJ.out
      refine hmet _ _ ?_
      go_meet
      rw [HD2.out]
      exact ⟨rfl, rfl, h11⟩

    · rw [if_neg c6] at hd
      have HD2 := Lib.hid hd
      have n6 : ((k12 : Int) == 6) = false := by rw [beq_eq_false_iff_ne]; omega
      clear hd c4 c6
      go_upto_region 4 with fail
      refine wp_region_seq [(0, true), (1, true), (3, true), (4, true), (5, true), (6, true), (2, false), (7, false), (8, true), (9, true)] (fun y => ∃ G, Sat u y (own bx (.cells #[.int .u8 (x.kind : Nat), .string x.name, x.vb, .int .i64 x.n, x.vk] 36 (0, 0)) * (G * F))) (by kernel_rfl) (by kernel_rfl) (fun _ _ _ _ _ h => h) ?_
      simp only [pickOps, Array.getD_eq_getD_getElem?, List.getElem?_toArray, List.getElem?_cons_succ, List.getElem?_cons_zero, Option.getD_some]
      have h7 : Sat u w5.drew (own bx (.cells #[.int .u8 (x.kind : Nat), .string x.name, x.vb, .int .i64 x.n, x.vk] 36 (0, 0)) * (ownT 5 (.slice (some a5) x.b.length c5) x.b * (isL l p W * (isN k q W * (isD p d * (isM q d * F)))))) := h6.drew
      generalize w5.drew = w7 at h7 ⊢
      clear h6 k0
      have h8 : Sat u w7 (own bx (.cells #[.int .u8 (x.kind : Nat), .string x.name, x.vb, .int .i64 x.n, x.vk] 36 (0, 0)) * ((ownT 5 (.slice (some a5) x.b.length c5) x.b * (isL l p W * (isN k q W * (isD p d * isM q d)))) * F)) := h7.eq (by ac_rfl)
      repeat (first
        | (refine wpSeq_run (by rfl) ⟨_, h8⟩ (fun K hK => ⟨?_, ?_, ?_⟩); rotate_left; (· (intro wS hSw; have q2 := hSw.choose_spec.cell 2; have cv := run_string_of (P := Tryz.prog) (HB.out _ hSw.choose_spec.right.right) 34 9 5 Tryz.underlying34 Tryz.underlying5 Tryz.underlying9; go_simp <;> with_reducible rfl)); simp only [Act.put, List.setIfInBounds_toArray, List.set_cons_zero, List.set_cons_succ]; refine hK _ ?_; clear hK K)
        | (refine wpSeq_skip (by rfl) ⟨_, h8⟩ (fun K hK => ?_); simp only [Act.put, List.setIfInBounds_toArray, List.set_cons_zero, List.set_cons_succ]; refine hK _ ?_; clear hK K))
      refine wpSeq_act (by rfl) (fun K hK => ?_)
      go_simp
      refine (lappend_any u w7 (own bx (.cells #[.int .u8 (x.kind : Nat), .string x.name, x.vb, .int .i64 x.n, x.vk] 36 (0, 0)) * (ownT 5 (.slice (some a5) x.b.length c5) x.b * (isN k q W * (isM q d * F)))) l p W d x.b (some a5) c5 (by omega) (fun w' h => h.right.ownT_at) (by omega) hrm (by omega) (h7.eq (by ac_rfl))).mono ?_
      rintro e w8 ⟨rfl, h9⟩
      try dsimp only
      try simp only [Act.put, List.setIfInBounds_toArray, List.set_cons_zero, List.set_cons_succ]
      refine hK _ _ (_) ((fun _ h => h)) ⟨_, h9.eq (show _ = own bx (.cells #[.int .u8 (x.kind : Nat), .string x.name, x.vb, .int .i64 x.n, x.vk] 36 (0, 0)) * ((ownT 5 (.slice (some a5) x.b.length c5) x.b * (isL l p (appendW d W x.b).2.1 * (isN k q W * (isD p (appendW d W x.b).2.2 * isM q d)))) * F) by ac_rfl)⟩ ?_
      clear hK K
      refine wpSeq_act (by rfl) (fun K hK => ?_)
      go_simp
      refine (nappend_any u w8 (own bx (.cells #[.int .u8 (x.kind : Nat), .string x.name, x.vb, .int .i64 x.n, x.vk] 36 (0, 0)) * (ownT 5 (.slice (some a5) x.b.length c5) x.b * (isL l p (appendW d W x.b).2.1 * (isD p (appendW d W x.b).2.2 * F)))) k q W d x.b (by omega) (by omega) hrm (by omega) (h9.eq (by ac_rfl))).mono ?_
      rintro e w9 ⟨rfl, h10⟩
      have h11 : Sat u w9 (own bx (.cells #[.int .u8 (x.kind : Nat), .string x.name, x.vb, .int .i64 x.n, x.vk] 36 (0, 0)) * (ownT 5 (.slice (some a5) x.b.length c5) x.b * (isL l p (appendW d W x.b).2.1 * (isN k q (appendW d W x.b).2.1 * (isD p (appendW d W x.b).2.2 * (isM q (appendW d W x.b).2.2 * F)))))) := h10.eq (by ac_rfl)
      try dsimp only
      try simp only [Act.put, List.setIfInBounds_toArray, List.set_cons_zero, List.set_cons_succ]
      refine hK _ _ (_) ((fun _ h => h)) ⟨_, h11.eq (show _ = own bx (.cells #[.int .u8 (x.kind : Nat), .string x.name, x.vb, .int .i64 x.n, x.vk] 36 (0, 0)) * ((ownT 5 (.slice (some a5) x.b.length c5) x.b * (isL l p (appendW d W x.b).2.1 * (isN k q (appendW d W x.b).2.1 * (isD p (appendW d W x.b).2.2 * isM q (appendW d W x.b).2.2)))) * F) by ac_rfl)⟩ ?_
      clear hK K
      repeat (first
        | (refine wpSeq_run (by rfl) ⟨_, h11.eq (show _ = own bx (.cells #[.int .u8 (x.kind : Nat), .string x.name, x.vb, .int .i64 x.n, x.vk] 36 (0, 0)) * ((ownT 5 (.slice (some a5) x.b.length c5) x.b * (isL l p (appendW d W x.b).2.1 * (isN k q (appendW d W x.b).2.1 * (isD p (appendW d W x.b).2.2 * isM q (appendW d W x.b).2.2)))) * F) by ac_rfl)⟩ (fun K hK => ⟨?_, ?_, ?_⟩); rotate_left; (· (intro wS hSw; go_simp <;> with_reducible rfl)); simp only [Act.put, List.setIfInBounds_toArray, List.set_cons_zero, List.set_cons_succ]; refine hK _ ?_; clear hK K)
        | (refine wpSeq_skip (by rfl) ⟨_, h11.eq (show _ = own bx (.cells #[.int .u8 (x.kind : Nat), .string x.name, x.vb, .int .i64 x.n, x.vk] 36 (0, 0)) * ((ownT 5 (.slice (some a5) x.b.length c5) x.b * (isL l p (appendW d W x.b).2.1 * (isN k q (appendW d W x.b).2.1 * (isD p (appendW d W x.b).2.2 * isM q (appendW d W x.b).2.2)))) * F) by ac_rfl)⟩ (fun K hK => ?_); simp only [Act.put, List.setIfInBounds_toArray, List.set_cons_zero, List.set_cons_succ]; refine hK _ ?_; clear hK K))
      refine wpSeq_end ?_
      have hJ := HJ.out
      refine hmet _ _ ?_
      go_meet
      rw [HD2.out]
      exact ⟨rfl, rfl, h11⟩

  case rest =>
    obtain ⟨rfl, rfl, h7⟩ := hcut
    clear h6 k0
    generalize hRR : doesW x.kind d W x.b = R at h7 ⊢
    have HRR := Lib.hid hRR
    clear hRR
    have c2 := h7.cell 2
    have cv1 := run_string_of (P := Tryz.prog) h7.right.ownT_at 34 9 5 Tryz.underlying34 Tryz.underlying5 Tryz.underlying9
    have cv2 := run_string_of (P := Tryz.prog) (HB.out wc h7.right.right.right.right.right.right) 34 9 5 Tryz.underlying34 Tryz.underlying5 Tryz.underlying9
    go_upto_region 11 with fail
    obtain ⟨g5, rfl, _, h8⟩ := Sat.scr_ofT h7.right
    clear c2 cv1 cv2 h7
    go_wp2_with fail
    generalize hbn : x.b.length = bn at h8 ⊢
    have hbn9 : bn ≤ 10000 := by omega
    clear hbn
    go_loopw [11] (fun t11 wr => ∃ i : Nat, i ≤ bn ∧ t11 = .int .i64 i ∧ Sat u wr (scr 5 g5 bn * (isL l p R.2.1 * (isN k q R.2.1 * (isD p R.2.2 * (isM q R.2.2 * F)))))) (fun t _ => bn - (intOf t).toNat)
    case atStart => exact ⟨0, Nat.zero_le _, rfl, h8⟩
    case round =>
      clear h8
      obtain ⟨i, hi, rfl, h9⟩ := hrel
      by_cases hil : i < bn
      · obtain ⟨y, c0, f0⟩ := Sat.scr_get h9 hil
        have h10 := Lib.hid (Sat.scr_set h9 i (IntKind.u8.wrap (y + 1)))
        have y5 : (i : Int) < bn := by omega
        have HIL := Lib.hid hil
        clear h9
        go_wp2_with fail
        exact ⟨⟨i + 1, HIL.out, rfl, h10.out⟩, by have hl := HIL.out; simp [intOf]; omega⟩
      · have e : i = bn := by omega
        subst e
        have H := Lib.hid h9.right
        clear h9
        go_wp2_with fail
        go_ret
        unfold DoneBoth
        rw [HRR.out]
        exact ⟨rfl, H.out⟩
end
end Go.Proofs.YtlfmkiclaijokaaGreatDoor
