/- slices.Insert, of one file. A file is laid among a disk's files. A new file is laid among a disk's files. What a drying keeps: all of a file, or its beginning. A disk of which a file is gone; a beginning of bytes of our own, shared. Drying: a file's bytes, or their beginning, go under another name. Drying whole; Sync, Rename, Cut. -/
import Derived.Test.YtlfmkiclaijokaaGreatDoorMk12
import Derived.Lib.Overlaps
import Derived.Test.YtlfmkiclaijokaaGreatDoorMk4
import Derived.Test.YtlfmkiclaijokaaGreatDoorMk9
namespace Go.Proofs.YtlfmkiclaijokaaGreatDoor
open Go.RowKit
set_option linter.unusedVariables false

abbrev fileZ : Value := .agg #[.string ⟨#[]⟩, .slice none 0 0, .slice none 0 0, .bool false]
theorem info_file3 : (Tryz.prog.info? 75).map (fun i => (i.zero, i.size, i.bytes)) = some (some fileZ, 4, 72) := by kernel_rfl

def oneF (x : FileV) : Prop := x.2.1.oneCell' = true ∧ x.2.2.oneCell' = true

theorem file_row {u w : World} {F : HProp} {gv : Nat} {x : FileV} (h : Sat u w (own gv (.cells (cellsV x).toArray 75 (0, 0)) * F)) : RowAt w (.slice (some ⟨gv, 0, none⟩) 1 1) 1 (cellsV x) := by
  refine .inr ⟨⟨gv, 0, none⟩, 1, rfl, Nat.le_refl _, by decide, fun j v hv => ?_⟩
  rw [addr_add, h.cell]
  simpa using hv

theorem oneF_cells {x : FileV} (h : oneF x) : ∀ v ∈ cellsV x, v.oneCell' = true := by
  intro v hv
  simp only [cellsV, List.mem_cons, List.not_mem_nil, or_false] at hv
  rcases hv with rfl | rfl | rfl | rfl
  · rfl
  · exact h.1
  · exact h.2
  · rfl

set_option maxRecDepth 100000 in
set_option maxHeartbeats 2000000 in
theorem insert_end (u w : World) (F : HProp) (a : Option Addr) (c : Nat) (L : List FileV) (gv : Nat) (x : FileV) (hb : L.length ≤ 1000000) (hone : oneF x)
    (hs : Sat u w (ownRow 75 4 (.slice a L.length c) L.length (cellsL L) * (own gv (.cells (cellsV x).toArray 75 (0, 0)) * F))) :
    Calls Tryz.prog 93 #[.slice a L.length c, .int .i64 L.length, .slice (some ⟨gv, 0, none⟩) 1 1] w
      fun e w' => ∃ a' c', e = .returned (.slice a' (L.length + 1) c') ∧ Sat u w' (ownRow 75 4 (.slice a' (L.length + 1) c') (L.length + 1) (cellsL (L ++ [x])) * F) := by
  obtain ⟨i0, hi, hz0, hz1, hz2⟩ := info_parts info_file3
  obtain ⟨_, _, hv, q1, q2⟩ := hs.row_at.len
  cases hv
  have hx := file_row hs.right
  have HX := Lib.hid hx
  have H := Lib.hid hs
  have HI := Lib.hid hi
  have HZ0 := Lib.hid hz0
  have HZ1 := Lib.hid hz1
  have HZ2 := Lib.hid hz2
  clear hs hx hi hz0 hz1 hz2
  have q3 : (L.length : Int) ≤ c := by omega
  go_enter Tryz.func93, Tryz.ntmps93
  go_wp2_with (at_builtin; refine wpList_append_sl rfl _ _ 52 rfl i0 fileZ Tryz.underlying52 HI.out HZ0.out HZ1.out HZ2.out rfl (by decide) rfl rfl H.out HX.out rfl (oneF_cells hone) (by omega) ?_; intro a4 c4 w4 h3 hy; clear hy)
  all_goals
    go_ret
    refine ⟨_, _, rfl, ?_⟩
    rw [cellsL_append]
    exact h3.s2.right

set_option maxRecDepth 100000 in
set_option maxHeartbeats 4000000 in
theorem insert_grow (u w : World) (F : HProp) (g c : Nat) (cur : Array Value) (L : List FileV) (i gv : Nat) (x : FileV) (hi : i < L.length) (hb : L.length ≤ 1000000) (hone : oneF x) (honeL : ∀ y ∈ L, oneF y) (hc : L.length = c) (hcur : cur.toList.take (L.length * 4) = cellsL L) (hsz : cur.size = c * 4)
    (hs : Sat u w (own g (.cells cur 75 (0, 0)) * (own gv (.cells (cellsV x).toArray 75 (0, 0)) * F))) :
    Calls Tryz.prog 93 #[.slice (some ⟨g, 0, none⟩) L.length c, .int .i64 i, .slice (some ⟨gv, 0, none⟩) 1 1] w
      fun e w' => ∃ a' c', e = .returned (.slice a' (L.length + 1) c') ∧ Sat u w' (ownRow 75 4 (.slice a' (L.length + 1) c') (L.length + 1) (cellsL (L.take i ++ x :: L.drop i)) * F) := by
  obtain ⟨i0, hi0, hz0, hz1, hz2⟩ := info_parts info_file3
  obtain ⟨g2, c2, cur2, w2, hr, p1, p2, p3, p4, h2⟩ := hs.append_zeros_grow (P := Tryz.prog) 52 3 52 i0 fileZ .i64 .i64 Tryz.underlying52 Tryz.underlying3 hi0 hz0 hz1 rfl (by decide) i c (by omega) hsz (L.length + 1 - i) (by omega) (by rw [hz2]; omega) (by rw [hz2]; decide)
  rw [show i + (L.length + 1 - i) = L.length + 1 from by omega] at hr p1 p4
  have hx := file_row h2.right.right
  have HX := Lib.hid hx
  have HI := Lib.hid hi0
  have HR := Lib.hid hr
  have P3 := Lib.hid p3
  have P4 := Lib.hid p4
  have HZ1 := Lib.hid hz1
  have HC := Lib.hid hc
  have HCUR := Lib.hid hcur
  have HSZ := Lib.hid hsz
  have hcp := run_copy_laid (P := Tryz.prog) (w := w2) (g := g2) (cur := cur2) 52 52 3 i0 Tryz.underlying52 hi0 (i * 4) (L.length + 1 - i) (c2 - i) ⟨gv, 0, none⟩ 1 1 1 (by show min 1 _ = 1; omega) h2.get (cellsV x) (by rw [hz1]; rfl) (by
    intro k v hv
    rw [addr_add, h2.right.right.cell]
    simpa using hv) (by rw [p3]; show _ + 4 ≤ _; omega) (oneF_cells hone)
  have h3 := h2.laid (i * 4) (cellsV x)
  have k1 := laid_size cur2 (i * 4) (cellsV x) (by rw [p3]; show _ + 4 ≤ _; omega)
  have k2 := laid_take2 cur2 (i * 4) (cellsV x) (by rw [p3]; show _ + 4 ≤ _; omega)
  rw [show i * 4 + (cellsV x).length = (i + 1) * 4 from by show _ + 4 = _; omega] at k2
  generalize laid cur2 (i * 4) (cellsV x) = cur3 at hcp h3 k1 k2
  have k3 : cur2.toList.take (i * 4) = (cellsL L).take (i * 4) := by
    have e : (cur2.toList.take ((L.length + 1) * 4)).take (i * 4) = (cur.toList.take (i * 4) ++ noughts fileZ (L.length + 1 - i)).take (i * 4) := by rw [p4]
    rw [List.take_take, show min (i * 4) ((L.length + 1) * 4) = i * 4 from by omega, List.take_left' (by rw [List.length_take, Array.length_toList, hsz]; omega)] at e
    rw [e, ← hcur, List.take_take, show min (i * 4) (L.length * 4) = i * 4 from by omega]
  rw [k3] at k2
  have K1 := Lib.hid k1
  have K2 := Lib.hid k2
  clear k1 k2 k3
  have q3 : (i : Int) ≤ c := by omega
  have q4 : (i : Int) ≤ L.length := by omega
  have q5 : ¬ ((i : Int) = L.length) := by omega
  have q6 : (c : Int) < (L.length : Int) + 1 := by omega
  have q7 : ¬ (c = i) := by omega
  have q8 : ¬ (c2 = i) := by omega
  have q9 : (i : Int) ≤ (L.length : Int) + 1 := by omega
  have m1 := Lib.hid (show (0 : Int) ≤ (i : Int) + 1 by omega)
  have m2 := Lib.hid (show ((i : Int) + 1).toNat = i + 1 by omega)
  have m3 := Lib.hid (show (i : Int) + 1 ≤ (L.length : Int) + 1 by omega)
  have m4 := Lib.hid (show ¬ (c2 = i + 1) by omega)
  have m5 := Lib.hid (show IntKind.i64.wrap ((i : Int) + 1) = (i : Int) + 1 by rw [IntKind.wrap_i64]; omega)
  clear hx hi0 hr p3 p4 hz0 hz1 hz2 hc hcur hsz hs h2
  go_enter Tryz.func93, Tryz.ntmps93
  go_wp2_with (at_builtin; refine Lib.wpList_append_run w rfl _ _ 52 3 rfl (.slice (some ⟨g, 0, none⟩) i c) (.int .i64 ((L.length + 1 - i : Nat) : Int)) rfl (by show Value.int .i64 _ = Value.int .i64 _; congr 1; omega) _ _ HR.out ?_)
  refine wp_region_seq [(0, true), (1, true), (2, true), (3, true), (4, true), (5, true), (6, true), (7, true), (8, false)] (fun _ => True) (by kernel_rfl) (by kernel_rfl) (fun _ _ _ _ _ h => h) ?_
  simp only [pickOps, Array.getD_eq_getD_getElem?, List.getElem?_toArray, List.getElem?_cons_succ, List.getElem?_cons_zero, Option.getD_some]
  repeat (first
    | (refine wpSeq_run (by rfl) trivial (fun K hK => ⟨?_, ?_, ?_⟩); rotate_left; (· (intro wS hSw; have f1 := m1.out; have f2 := m2.out; have f3 := m3.out; have f4 := m4.out; have f5 := m5.out; go_simp <;> with_reducible rfl)); simp only [Act.put, List.setIfInBounds_toArray, List.set_cons_zero, List.set_cons_succ]; refine hK _ ?_; clear hK K)
    | (refine wpSeq_skip (by rfl) trivial (fun K hK => ?_); simp only [Act.put, List.setIfInBounds_toArray, List.set_cons_zero, List.set_cons_succ]; refine hK _ ?_; clear hK K))
  refine wpSeq_act (by rfl) (fun K hK => ?_)
  refine wp_copy_laid _ _ 52 52 rfl i0 Tryz.underlying52 HI.out ((i + 1) * 4) (L.length - i) (c2 - (i + 1)) ⟨g, i * 4, none⟩ (L.length - i) (c - i) (L.length - i) (by show min (L.length - i) (L.length - i) = _; omega) rfl rfl h3.drew (cellsL (L.drop i)) (by rw [HZ1.out, cellsL_length, List.length_drop]) ?_ ?_ ?_ ?_
  · intro k v hv
    rw [addr_add_at]
    exact files_from h3.drew.right HCUR.out i (by omega) k v hv
  · rw [K1.out, P3.out, cellsL_length, List.length_drop]
    omega
  · exact cellsL_one _ (fun y hy => honeL y (List.mem_of_mem_drop hy))
  intro w4 h4
  have hfit : (i + 1) * 4 + (cellsL (L.drop i)).length ≤ cur3.size := by rw [K1.out, P3.out, cellsL_length, List.length_drop]; omega
  have n1 := laid_size cur3 ((i + 1) * 4) (cellsL (L.drop i)) hfit
  have n2 := laid_take2 cur3 ((i + 1) * 4) (cellsL (L.drop i)) hfit
  rw [show (i + 1) * 4 + (cellsL (L.drop i)).length = (L.length + 1) * 4 from by rw [cellsL_length, List.length_drop]; omega, K2.out, ← (cellsL_split L i (by omega)).1] at n2
  have h5 := (Sat.row_mk h4 p1 p2 (by rw [n1, K1.out, P3.out]) n2).s2.right.s2.right
  have e : cellsL (L.take i) ++ cellsV x ++ cellsL (L.drop i) = cellsL (L.take i ++ x :: L.drop i) := by
    rw [cellsL_append, List.append_assoc]
    rfl
  rw [e] at h5
  have H5 := Lib.hid h5
  clear h4 h5 h3 hfit n1 n2 e
  try dsimp only
  try simp only [Act.put, List.setIfInBounds_toArray, List.set_cons_zero, List.set_cons_succ]
  refine hK _ _ (_) ((fun _ h => h)) trivial ?_
  clear hK K
  refine wpSeq_end ?_
  go_wp2_with fail
  go_ret
  exact ⟨_, _, rfl, H5.out⟩

set_option maxRecDepth 100000 in
set_option maxHeartbeats 4000000 in
theorem insert_shift (u w : World) (F : HProp) (g c : Nat) (cur : Array Value) (L : List FileV) (i gv : Nat) (x : FileV) (hi : i < L.length) (hb : L.length ≤ 1000000) (hone : oneF x) (honeL : ∀ y ∈ L, oneF y) (hc : L.length + 1 ≤ c) (hc2 : c ≤ maxLen) (hcur : cur.toList.take (L.length * 4) = cellsL L) (hsz : cur.size = c * 4)
    (hs : Sat u w (own g (.cells cur 75 (0, 0)) * (own gv (.cells (cellsV x).toArray 75 (0, 0)) * F))) :
    Calls Tryz.prog 93 #[.slice (some ⟨g, 0, none⟩) L.length c, .int .i64 i, .slice (some ⟨gv, 0, none⟩) 1 1] w
      fun e w' => ∃ a' c', e = .returned (.slice a' (L.length + 1) c') ∧ Sat u w' (ownRow 75 4 (.slice a' (L.length + 1) c') (L.length + 1) (cellsL (L.take i ++ x :: L.drop i)) * F) := by
  obtain ⟨i0, hi0, hz0, hz1, hz2⟩ := info_parts info_file3
  have hne := hs.ne
  have hov : ∀ lb cb, (callFunc 121 #[.slice (some ⟨gv, 0, none⟩) 1 1, .slice (some ⟨g, (i + 1) * 4, none⟩) lb cb]).run Tryz.prog w = .ok (.value (.bool false)) w := fun lb cb => by
    rw [run_callFunc_extern Tryz.func121 (by kernel_rfl) (by kernel_rfl) (by kernel_rfl) (e := Extern.SlicesOverlaps.overlaps #[52, 52] #[4]) (by kernel_rfl),
      Lib.run_overlaps_apart w 52 4 75 Tryz.underlying52 4 (fun w => by simp [Go.sizeOf, typeInfo, hi0, hz1]) ⟨gv, 0, none⟩ ⟨g, (i + 1) * 4, none⟩ 1 1 lb cb (fun e => hne e.symm) 75 75 (cellsV x).toArray.size cur.size
        (by simp [World.shape?, hs.right.get]) (by simp [World.shape?, hs.get]) (by rw [hsz]; omega) (hs.right.free 0) (hs.right.free _)]
    rfl
  have HI := Lib.hid hi0
  have HZ1 := Lib.hid hz1
  have HCUR := Lib.hid hcur
  have HSZ := Lib.hid hsz
  have q3 : (i : Int) ≤ c := by omega
  have q4 : (i : Int) ≤ L.length := by omega
  have q5 : ¬ ((i : Int) = L.length) := by omega
  have q6 : ¬ ((c : Int) < (L.length : Int) + 1) := by omega
  have q7 : ¬ (c = i) := by omega
  have q9 : (i : Int) ≤ (L.length : Int) + 1 := by omega
  have m0 : (0 : Int) ≤ (L.length : Int) + 1 := by omega
  have m1 : ((L.length : Int) + 1).toNat = L.length + 1 := by omega
  have m2 : (L.length : Int) + 1 ≤ c := by omega
  have m3 : (0 : Int) ≤ (i : Int) + 1 := by omega
  have m4 : ((i : Int) + 1).toNat = i + 1 := by omega
  have m5 : (i : Int) + 1 ≤ (L.length : Int) + 1 := by omega
  have m6 : ¬ (c = i + 1) := by omega
  have m7 : IntKind.i64.wrap ((i : Int) + 1) = (i : Int) + 1 := by rw [IntKind.wrap_i64]; omega
  clear hi0 hz0 hz1 hz2 hcur hsz hne
  go_enter Tryz.func93, Tryz.ntmps93
  go_wp2_with fail
  refine wp_region_seq [(0, true), (1, true), (2, true), (3, true), (4, true), (5, true), (6, true), (7, true), (8, false)] (fun _ => True) (by kernel_rfl) (by kernel_rfl) (fun _ _ _ _ _ h => h) ?_
  simp only [pickOps, Array.getD_eq_getD_getElem?, List.getElem?_toArray, List.getElem?_cons_succ, List.getElem?_cons_zero, Option.getD_some]
  clear hov
  repeat (first
    | (refine wpSeq_run (by rfl) trivial (fun K hK => ⟨?_, ?_, ?_⟩); rotate_left; (· (intro wS hSw; go_simp <;> with_reducible rfl)); simp only [Act.put, List.setIfInBounds_toArray, List.set_cons_zero, List.set_cons_succ]; refine hK _ ?_; clear hK K)
    | (refine wpSeq_skip (by rfl) trivial (fun K hK => ?_); simp only [Act.put, List.setIfInBounds_toArray, List.set_cons_zero, List.set_cons_succ]; refine hK _ ?_; clear hK K))
  refine wpSeq_act (by rfl) (fun K hK => ?_)
  refine wp_copy_laid _ _ 52 52 rfl i0 Tryz.underlying52 HI.out ((i + 1) * 4) (L.length - i) (c - (i + 1)) ⟨g, i * 4, none⟩ (L.length + 1 - i) (c - i) (L.length - i) (by show min (L.length + 1 - i) (L.length - i) = _; omega) rfl rfl hs.drew (cellsL (L.drop i)) (by rw [HZ1.out, cellsL_length, List.length_drop]) ?_ ?_ ?_ ?_
  · intro k v hv
    rw [addr_add_at]
    exact files_from hs.drew HCUR.out i (by omega) k v hv
  · rw [HSZ.out, cellsL_length, List.length_drop]
    omega
  · exact cellsL_one _ (fun y hy => honeL y (List.mem_of_mem_drop hy))
  intro w2 h2
  clear hs
  have hfit : (i + 1) * 4 + (cellsL (L.drop i)).length ≤ cur.size := by rw [HSZ.out, cellsL_length, List.length_drop]; omega
  have n1 := laid_size cur ((i + 1) * 4) (cellsL (L.drop i)) hfit
  have n2 := laid_take2 cur ((i + 1) * 4) (cellsL (L.drop i)) hfit
  have n3 := laid_take cur ((i + 1) * 4) (cellsL (L.drop i)) (i * 4) hfit (by omega)
  rw [show (i + 1) * 4 + (cellsL (L.drop i)).length = (L.length + 1) * 4 from by rw [cellsL_length, List.length_drop]; omega] at n2
  generalize laid cur ((i + 1) * 4) (cellsL (L.drop i)) = cur3 at h2 n1 n2 n3
  have hX : (cellsV x).length = 4 := rfl
  have hfit4 : i * 4 + (cellsV x).length ≤ (L.length + 1) * 4 := by omega
  have hcp := run_copy_laid (P := Tryz.prog) (w := w2) (g := g) (cur := cur3) 52 52 3 i0 Tryz.underlying52 HI.out (i * 4) (L.length + 1 - i) (c - i) ⟨gv, 0, none⟩ 1 1 1 (by show min 1 _ = 1; omega) h2.get (cellsV x) (by rw [HZ1.out]; rfl) (by
    intro k v hv
    rw [addr_add, h2.right.cell]
    simpa using hv) (by rw [n1, HSZ.out]; omega) (oneF_cells hone)
  have h3 := h2.laid (i * 4) (cellsV x)
  have n4 := laid_size cur3 (i * 4) (cellsV x) (by rw [n1, HSZ.out]; omega)
  have n5 := laid_take3 cur3 (i * 4) (cellsV x) ((L.length + 1) * 4) hfit4 (by rw [n1, HSZ.out]; omega)
  have hcl : (cur.toList.take ((i + 1) * 4)).length = (i + 1) * 4 := by rw [List.length_take, Array.length_toList, HSZ.out]; omega
  rw [n2, n3, show i * 4 + (cellsV x).length = (i + 1) * 4 from by omega, List.drop_left' hcl] at n5
  have e1 : cur.toList.take (i * 4) = cellsL (L.take i) := by
    rw [(cellsL_split L i (by omega)).1, ← HCUR.out, List.take_take]
    congr 1
    omega
  have e2 : cellsL (L.take i) ++ cellsV x ++ cellsL (L.drop i) = cellsL (L.take i ++ x :: L.drop i) := by
    rw [cellsL_append, List.append_assoc]
    rfl
  rw [e1, e2] at n5
  have h4 := (Sat.row_mk h3 hc hc2 (by rw [n4, n1, HSZ.out]) n5).s2.right
  have H4 := Lib.hid h4
  clear h2 h3 h4 n1 n2 n3 n4 n5 e1 e2 hcl hfit hfit4 hX
  try dsimp only
  try simp only [Act.put, List.setIfInBounds_toArray, List.set_cons_zero, List.set_cons_succ]
  refine hK _ _ (_) ((fun _ h => h)) trivial ?_
  clear hK K
  refine wpSeq_end ?_
  go_wp2_with fail
  go_ret
  exact ⟨_, _, rfl, H4.out⟩

theorem insert_any (u w : World) (F : HProp) (a : Option Addr) (c : Nat) (L : List FileV) (i gv : Nat) (x : FileV) (hi : i ≤ L.length) (hb : L.length ≤ 1000000) (hone : oneF x) (honeL : ∀ y ∈ L, oneF y)
    (hs : Sat u w (ownRow 75 4 (.slice a L.length c) L.length (cellsL L) * (own gv (.cells (cellsV x).toArray 75 (0, 0)) * F))) :
    Calls Tryz.prog 93 #[.slice a L.length c, .int .i64 i, .slice (some ⟨gv, 0, none⟩) 1 1] w
      fun e w' => ∃ a' c', e = .returned (.slice a' (L.length + 1) c') ∧ Sat u w' (ownRow 75 4 (.slice a' (L.length + 1) c') (L.length + 1) (cellsL (L.take i ++ x :: L.drop i)) * F) := by
  by_cases h : i = L.length
  · subst h
    rw [List.take_of_length_le (Nat.le_refl _), List.drop_of_length_le (Nat.le_refl _)]
    exact insert_end u w F a c L gv x hb hone hs
  · obtain ⟨g, cap, cur, hv, q1, q2, q3, q4, h1⟩ := files_block hs (by omega)
    cases hv
    by_cases hc : L.length = c
    · exact insert_grow u w F g c cur L i gv x (by omega) hb hone honeL hc q4 q3 h1
    · exact insert_shift u w F g c cur L i gv x (by omega) hb hone honeL (by omega) q2 q4 q3 h1

/-- The bytes of files are rows. -/
theorem roL_one {u w : World} {F : HProp} : ∀ {L : List FileV}, Sat u w (roL L * F) → ∀ x ∈ L, oneF x
  | [], _, x, hx => by cases hx
  | y :: L, h, x, hx => by
    have h' : Sat u w (roB y.2.1 y.1.dry * (roB y.2.2 y.1.wet * (roL L * F))) := h.eq (by show (_ * (_ * roL L)) * F = _; ac_rfl)
    rcases List.mem_cons.1 hx with rfl | hx
    · obtain ⟨_, _, e1, _⟩ := RowAt.len h'.roB_at
      obtain ⟨_, _, e2, _⟩ := RowAt.len h'.right.roB_at
      exact ⟨by rw [e1]; rfl, by rw [e2]; rfl⟩
    · exact roL_one h'.right.right x hx
end Go.Proofs.YtlfmkiclaijokaaGreatDoor

namespace Go.Proofs.YtlfmkiclaijokaaGreatDoor
open Go.RowKit
set_option linter.unusedVariables false

theorem list_set4 : ∀ (o : Nat) (l : List Value) (a b c d : Value), o + 4 ≤ l.length → (((l.set o a).set (o + 1) b).set (o + 2) c).set (o + 3) d = l.take o ++ [a, b, c, d] ++ l.drop (o + 4)
  | 0, _ :: _ :: _ :: _ :: _, _, _, _, _, _ => rfl
  | 0, [], _, _, _, _, h => by simp at h
  | 0, [_], _, _, _, _, h => by simp at h
  | 0, [_, _], _, _, _, _, h => by simp at h
  | 0, [_, _, _], _, _, _, _, h => by simp at h
  | o + 1, [], _, _, _, _, h => by simp at h
  | o + 1, y :: l, a, b, c, d, h => by
    have := list_set4 o l a b c d (by simp at h; omega)
    rw [show o + 1 + 1 = (o + 1) + 1 from rfl, List.set_cons_succ, List.set_cons_succ, show o + 1 + 2 = (o + 2) + 1 from rfl, List.set_cons_succ, show o + 1 + 3 = (o + 3) + 1 from rfl, List.set_cons_succ, this,
      show o + 1 + 4 = (o + 4) + 1 from rfl, List.take_succ_cons, List.drop_succ_cons]
    rfl

theorem set4_laid (cur : Array Value) (o : Nat) (a b c d : Value) (h : o + 4 ≤ cur.size) : (((cur.setIfInBounds o a).setIfInBounds (o + 1) b).setIfInBounds (o + 2) c).setIfInBounds (o + 3) d = laid cur o [a, b, c, d] := by
  apply Array.toList_inj.1
  simp only [Array.toList_setIfInBounds]
  rw [list_set4 o cur.toList a b c d (by simpa using h)]
  rfl

/-- The k-th file is written anew. -/
theorem Sat.set_file {u w : World} {F : HProp} {g c : Nat} {L : List FileV} (h : Sat u w (ownRow 75 4 (.slice (some ⟨g, 0, none⟩) L.length c) L.length (cellsL L) * F)) (k : Nat) (hk : k < L.length) (x : FileV) :
    (∀ j, j < 4 → (∃ y, w.cell? ⟨g, k * 4 + j, none⟩ = some y) ∧ w.frozen? ⟨g, k * 4 + j, none⟩ = false) ∧
    Sat u ((((w.setCell ⟨g, k * 4, none⟩ (.string (str x.1.name))).setCell ⟨g, k * 4 + 1, none⟩ x.2.1).setCell ⟨g, k * 4 + 2, none⟩ x.2.2).setCell ⟨g, k * 4 + 3, none⟩ (.bool x.1.born))
      (ownRow 75 4 (.slice (some ⟨g, 0, none⟩) L.length c) L.length (cellsL (L.take k ++ x :: L.drop (k + 1))) * F) := by
  obtain ⟨g', cap, cur, hv, q1, q2, q3, q4, h1⟩ := files_block h (by omega)
  cases hv
  refine ⟨fun j hj => ⟨?_, h1.free _⟩, ?_⟩
  · rw [h1.cell]
    exact ⟨_, Array.getElem?_eq_getElem (by omega)⟩
  · have h2 := (((h1.setCell (k * 4) (.string (str x.1.name))).setCell (k * 4 + 1) x.2.1).setCell (k * 4 + 2) x.2.2).setCell (k * 4 + 3) (.bool x.1.born)
    rw [set4_laid _ _ _ _ _ _ (by omega)] at h2
    have hfit : k * 4 + (cellsV x).length ≤ L.length * 4 := by show _ + 4 ≤ _; omega
    refine Sat.row_mk h2 q1 q2 ?_ ?_
    · rw [laid_size _ _ _ (by show _ + 4 ≤ _; omega), q3]
    · have e := laid_take3 cur (k * 4) (cellsV x) (L.length * 4) hfit (by omega)
      rw [q4] at e
      have e1 : cur.toList.take (k * 4) = cellsL (L.take k) := by
        rw [(cellsL_split L k (by omega)).1, ← q4, List.take_take]
        congr 1
        omega
      have e2 : (cellsL L).drop (k * 4 + (cellsV x).length) = cellsL (L.drop (k + 1)) := by
        rw [(cellsL_split L (k + 1) (by omega)).2]
        congr 1
        show k * 4 + 4 = _
        omega
      rw [e1, e2] at e
      have e' : (Go.Proofs.YtlfmkiclaijokaaGreatDoor.laid cur (k * 4) (cellsV x)).toList.take (L.length * 4) = cellsL (L.take k ++ x :: L.drop (k + 1)) := by
        rw [e, cellsL_append, List.append_assoc]
        rfl
      exact e'

theorem roL_append (L M : List FileV) : roL (L ++ M) = roL L * roL M := by
  induction L with
  | nil =>
    show roL M = fact True * roL M
    funext r
    apply propext
    constructor
    · intro h
      exact ⟨fun _ => none, r, ⟨trivial, rfl⟩, h, fun _ => trivial, by simp [joAt]⟩
    · rintro ⟨r1, r2, ⟨_, rfl⟩, h, _, rfl⟩
      simpa [joAt] using h
  | cons x L ih =>
    show roB _ _ * (roB _ _ * roL (L ++ M)) = roB _ _ * (roB _ _ * roL L) * roL M
    rw [ih]
    ac_rfl

theorem has_lt (fs : List FileP) (hs : SortedF fs) (n : Bs) (h : hasN fs n = true) : posN fs n < fs.length := by
  rw [hasN_at fs hs n] at h
  rcases hx : fs[posN fs n]? with _ | f
  · rw [hx] at h
    cases h
  · exact (List.getElem?_eq_some_iff.1 hx).1

/-- The rows of bytes when a file takes another's place. -/
theorem roL_put {u w : World} {F : HProp} {L : List FileV} {k : Nat} (m : Nat) (hm : k ≤ m) {x : FileV} (h : Sat u w (roL L * (roB x.2.1 x.1.dry * (roB x.2.2 x.1.wet * F)))) : Sat u w (roL (L.take k ++ x :: L.drop m) * F) := by
  have e : L = L.take k ++ ((L.drop k).take (m - k) ++ L.drop m) := by
    rw [show L.drop m = (L.drop k).drop (m - k) from by rw [List.drop_drop]; congr 1; omega, List.take_append_drop, List.take_append_drop]
  have h2 : Sat u w (roL ((L.drop k).take (m - k)) * (roL (L.take k) * (roL (L.drop m) * (roB x.2.1 x.1.dry * (roB x.2.2 x.1.wet * F))))) := by
    rw [e, roL_append, roL_append] at h
    exact h.eq (by ac_rfl)
  refine h2.right.eq ?_
  rw [roL_append]
  show _ = roL _ * (roB _ _ * (roB _ _ * roL _)) * F
  ac_rfl

/-- The disk, put together again. -/
theorem isD_put {u w : World} {F : HProp} {p : Nat} {d : DiskP} {f : FileP} {dv wv : Value} {L : List FileV} {a : Option Addr} {c k m n : Nat} (hm : k ≤ m) (hn : n = k + 1 + (L.length - m)) (hk : k ≤ L.length) (hL : L.map (·.1) = d.files)
    (hput : putF f d.files = d.files.take k ++ f :: d.files.drop m) (hok : OkD { d with files := putF f d.files })
    (h : Sat u w (ownRow 75 4 (.slice a n c) n (cellsL (L.take k ++ (f, dv, wv) :: L.drop m)) * (own p (headD (.slice a n c) d) * (roL L * (roB dv f.dry * (roB wv f.wet * F)))))) : Sat u w (isD p { d with files := putF f d.files } * F) := by
  have hl : (L.take k ++ (f, dv, wv) :: L.drop m).length = n := by
    rw [List.length_append, List.length_take, List.length_cons, List.length_drop]
    omega
  subst hl
  refine isD_iff.2 ⟨hok, .slice a (L.take k ++ (f, dv, wv) :: L.drop m).length c, ?_⟩
  have h2 := roL_put (F := own p (headD (.slice a (L.take k ++ (f, dv, wv) :: L.drop m).length c) d) * (ownRow 75 4 (.slice a (L.take k ++ (f, dv, wv) :: L.drop m).length c) (L.take k ++ (f, dv, wv) :: L.drop m).length (cellsL (L.take k ++ (f, dv, wv) :: L.drop m)) * F)) m hm (x := (f, dv, wv)) (h.eq (by ac_rfl))
  have h3 : Sat u w (isFiles (.slice a (L.take k ++ (f, dv, wv) :: L.drop m).length c) (putF f d.files) * (own p (headD (.slice a (L.take k ++ (f, dv, wv) :: L.drop m).length c) d) * F)) :=
    isFiles_iff.2 ⟨L.take k ++ (f, dv, wv) :: L.drop m, by rw [hput, ← hL, List.map_append, List.map_cons, List.map_take, List.map_drop], h2.eq (by ac_rfl)⟩
  exact h3.s2

set_option maxRecDepth 100000 in
set_option maxHeartbeats 4000000 in
theorem lay_there (u w : World) (F : HProp) (p : Nat) (d : DiskP) (f : FileP) (a1 a2 : Option Addr) (n1 n2 e1 e2 : Nat) (hh : hasN d.files f.name = true) (hok : OkD { d with files := putF f d.files }) (hs : Sat u w (isD p d * (roB (.slice a1 n1 e1) f.dry * (roB (.slice a2 n2 e2) f.wet * F)))) :
    Calls Tryz.prog 52 #[.pointer (some ⟨p, 0, none⟩), .agg #[.string (str f.name), (.slice a1 n1 e1), (.slice a2 n2 e2), .bool f.born]] w
      fun e w' => e = .returned (.tuple #[]) ∧ Sat u w' (isD p { d with files := putF f d.files } * F) := by
  have h1 := (hs.alloc (.cells #[.string (str f.name), (.slice a1 n1 e1), (.slice a2 n2 e2), .bool f.born] 75)).s2
  have HO := Lib.hid hok
  have HH := Lib.hid hh
  have hpos := posN_le d.files f.name
  clear hs hok hh
  go_enter Tryz.func52, Tryz.ntmps52
  go_wp2_with fail
  refine (find_any u _ _ p d f.name h1).mono ?_
  rintro e w1 ⟨rfl, h2⟩
  rw [HH.out]
  dsimp only
  obtain ⟨ok, v, h3⟩ := isD_iff.1 h2
  have OK := Lib.hid ok
  obtain ⟨L, hL, h4⟩ := isFiles_iff.1 h3.s2
  have hlen : L.length = d.files.length := by rw [← hL, List.length_map]
  have hkl : posN d.files f.name < L.length := by rw [hlen]; exact has_lt d.files ok.sorted f.name HH.out
  obtain ⟨g, cap, cur, hv, _⟩ := files_block h4 (by omega)
  subst hv
  generalize hpk : posN d.files f.name = k at hkl hpos
  have HPK := Lib.hid hpk
  have HL := Lib.hid hL
  have HLEN := Lib.hid hlen
  have hlb : L.length ≤ 1000000 := by have := ok.many; omega
  have y1 : (k : Int) < L.length := by omega
  clear h1 h2 h3 hpk hL hlen ok
  generalize w.heap.size = b at h4 ⊢
  have h5 := h4.s3
  go_wp2_with fail
  refine wp_region_seq [(0, true), (1, true), (2, true), (3, true), (4, true), (5, true), (6, true), (7, false)] (fun x => Sat u x (own p (headD (.slice (some ⟨g, 0, none⟩) L.length cap) d) * (own b (.cells #[.string (str f.name), (.slice a1 n1 e1), (.slice a2 n2 e2), .bool f.born] 75 (0, 0)) * (roL L * (roB (.slice a1 n1 e1) f.dry * (roB (.slice a2 n2 e2) f.wet * F)))))) (by kernel_rfl) (by kernel_rfl) (fun _ _ _ _ _ h => h) ?_
  simp only [pickOps, Array.getD_eq_getD_getElem?, List.getElem?_toArray, List.getElem?_cons_succ, List.getElem?_cons_zero, Option.getD_some]
  have h6 : Sat u w1.drew (ownRow 75 4 (.slice (some ⟨g, 0, none⟩) L.length cap) L.length (cellsL L) * (own p (headD (.slice (some ⟨g, 0, none⟩) L.length cap) d) * (own b (.cells #[.string (str f.name), (.slice a1 n1 e1), (.slice a2 n2 e2), .bool f.born] 75 (0, 0)) * (roL L * (roB (.slice a1 n1 e1) f.dry * (roB (.slice a2 n2 e2) f.wet * F)))))) := h4.drew.eq (by ac_rfl)
  generalize w1.drew = w2 at h6 ⊢
  repeat (first
    | (refine wpSeq_run (by rfl) h6.right (fun K hK => ⟨?_, ?_, ?_⟩); rotate_left; (· (intro wS hSw; have c0 : wS.cell? ⟨p, 0, none⟩ = some (.slice (some ⟨g, 0, none⟩) L.length cap) := hSw.cell 0; have d0 := hSw.right.cell 0; have d1 := hSw.right.cell 1; have d2 := hSw.right.cell 2; have d3 := hSw.right.cell 3; go_simp <;> with_reducible rfl)); simp only [Act.put, List.setIfInBounds_toArray, List.set_cons_zero, List.set_cons_succ]; refine hK _ ?_; clear hK K)
    | (refine wpSeq_skip (by rfl) h6.right (fun K hK => ?_); simp only [Act.put, List.setIfInBounds_toArray, List.set_cons_zero, List.set_cons_succ]; refine hK _ ?_; clear hK K))
  obtain ⟨hc, h7⟩ := h6.set_file k hkl (f, (.slice a1 n1 e1), (.slice a2 n2 e2))
  obtain ⟨⟨z0, c0⟩, f0⟩ := hc 0 (by decide)
  obtain ⟨⟨z1, c1⟩, f1⟩ := hc 1 (by decide)
  obtain ⟨⟨z2, c2⟩, f2⟩ := hc 2 (by decide)
  obtain ⟨⟨z3, c3⟩, f3⟩ := hc 3 (by decide)
  simp only [Nat.add_zero] at c0 f0
  have h8 := h7.right
  have hput := put_at d.files OK.out.sorted f
  rw [HH.out, if_pos rfl, HPK.out] at hput
  have h9 := isD_put (F := F) (n := L.length) (show k ≤ k + 1 by omega) (by omega) (by omega) HL.out hput HO.out h7.s3.right
  have h10 := h7.right
  have H9 := Lib.hid h9
  clear h6 h7 h8 h9 hc hput
  refine wpSeq_act (by rfl) (fun K hK => ?_)
  go_simp
  try dsimp only
  try simp only [Act.put, List.setIfInBounds_toArray, List.set_cons_zero, List.set_cons_succ]
  refine hK _ _ (_) ((fun _ h => h)) h10 ?_
  clear hK K
  refine wpSeq_end ?_
  go_wp2_with fail
  go_end0
  exact ⟨rfl, H9.out⟩
end Go.Proofs.YtlfmkiclaijokaaGreatDoor

namespace Go.Proofs.YtlfmkiclaijokaaGreatDoor
open Go.RowKit
set_option linter.unusedVariables false

set_option maxRecDepth 100000 in
set_option maxHeartbeats 4000000 in
theorem lay_new (u w : World) (F : HProp) (p : Nat) (d : DiskP) (f : FileP) (a1 a2 : Option Addr) (n1 n2 e1 e2 : Nat) (hh : hasN d.files f.name = false) (hok : OkD { d with files := putF f d.files }) (hs : Sat u w (isD p d * (roB (.slice a1 n1 e1) f.dry * (roB (.slice a2 n2 e2) f.wet * F)))) :
    Calls Tryz.prog 52 #[.pointer (some ⟨p, 0, none⟩), .agg #[.string (str f.name), (.slice a1 n1 e1), (.slice a2 n2 e2), .bool f.born]] w
      fun e w' => e = .returned (.tuple #[]) ∧ Sat u w' (isD p { d with files := putF f d.files } * F) := by
  have h1 := (hs.alloc (.cells #[.string (str f.name), (.slice a1 n1 e1), (.slice a2 n2 e2), .bool f.born] 75)).s2
  have HO := Lib.hid hok
  have HH := Lib.hid hh
  have hpos := posN_le d.files f.name
  clear hs hok hh
  go_enter Tryz.func52, Tryz.ntmps52
  go_wp2_with fail
  refine (find_any u _ _ p d f.name h1).mono ?_
  rintro e w1 ⟨rfl, h2⟩
  rw [HH.out]
  dsimp only
  obtain ⟨ok, v, h3⟩ := isD_iff.1 h2
  have OK := Lib.hid ok
  obtain ⟨L, hL, h4⟩ := isFiles_iff.1 h3.s2
  have hlen : L.length = d.files.length := by rw [← hL, List.length_map]
  obtain ⟨a, cap, hv, q1, q2⟩ := h4.row_at.len
  subst hv
  generalize hpk : posN d.files f.name = k at hpos
  have hkl : k ≤ L.length := by omega
  have HPK := Lib.hid hpk
  have HL := Lib.hid hL
  have HLEN := Lib.hid hlen
  have hlb : L.length ≤ 1000000 := by have := ok.many; omega
  clear h1 h2 h3 hpk hL hlen ok
  generalize w.heap.size = b at h4 ⊢
  have h5 : Sat u w1 (own p (headD (.slice a L.length cap) d) * (own b (.cells #[.string (str f.name), (.slice a1 n1 e1), (.slice a2 n2 e2), .bool f.born] 75 (0, 0)) * (ownRow 75 4 (.slice a L.length cap) L.length (cellsL L) * (roL L * (roB (.slice a1 n1 e1) f.dry * (roB (.slice a2 n2 e2) f.wet * F)))))) := h4.eq (by ac_rfl)
  have HONE := Lib.hid (roL_one h5.right.right.right)
  have h6 : Sat u w1.drew (ownRow 75 4 (.slice a L.length cap) L.length (cellsL L) * (own p (headD (.slice a L.length cap) d) * (own b (.cells #[.string (str f.name), (.slice a1 n1 e1), (.slice a2 n2 e2), .bool f.born] 75 (0, 0)) * (roL L * (roB (.slice a1 n1 e1) f.dry * (roB (.slice a2 n2 e2) f.wet * F)))))) := h4.drew.eq (by ac_rfl)
  clear h4 h5
  go_wp2_with fail
  refine wp_region_last 11 [(0, true), (1, true), (2, true), (3, true), (4, true), (5, true), (6, true), (7, false), (8, false), (9, false), (10, true), (11, false)] (fun x => Sat u x (own p (headD (.slice a L.length cap) d) * (own b (.cells #[.string (str f.name), (.slice a1 n1 e1), (.slice a2 n2 e2), .bool f.born] 75 (0, 0)) * (roL L * (roB (.slice a1 n1 e1) f.dry * (roB (.slice a2 n2 e2) f.wet * F)))))) (by kernel_rfl) (by kernel_rfl) (fun _ _ _ _ _ h => h) ?_
  simp only [pickOps, Array.getD_eq_getD_getElem?, List.getElem?_toArray, List.getElem?_cons_succ, List.getElem?_cons_zero, Option.getD_some]
  generalize w1.drew = w2 at h6 ⊢
  repeat (first
    | (refine wpSeqM_run (by rfl) h6.right (fun K hK => ⟨?_, ?_, ?_⟩); rotate_left; (· (intro wS hSw; have c0 : wS.cell? ⟨p, 0, none⟩ = some (.slice a L.length cap) := hSw.cell 0; have d0 := hSw.right.cell 0; have d1 := hSw.right.cell 1; have d2 := hSw.right.cell 2; have d3 := hSw.right.cell 3; go_simp <;> with_reducible rfl)); simp only [Act.put, List.setIfInBounds_toArray, List.set_cons_zero, List.set_cons_succ]; refine hK _ ?_; clear hK K)
    | (refine wpSeqM_skip (by rfl) h6.right (fun K hK => ?_); simp only [Act.put, List.setIfInBounds_toArray, List.set_cons_zero, List.set_cons_succ]; refine hK _ ?_; clear hK K))
  have h7 := (h6.alloc (.cells (cellsV (f, .slice a1 n1 e1, .slice a2 n2 e2)).toArray 75)).s2
  refine wpSeqM_act (by rfl) (fun K hK => ?_)
  go_simp
  try dsimp only
  try simp only [Act.put, List.setIfInBounds_toArray, List.set_cons_zero, List.set_cons_succ]
  refine hK _ _ (_) ((fun _ h => h)) h7.right.right ?_
  clear hK K
  refine wpSeqM_act (by rfl) (fun K hK => ?_)
  go_simp
  refine (insert_any u _ _ a cap L k w2.heap.size (f, .slice a1 n1 e1, .slice a2 n2 e2) hkl hlb ⟨rfl, rfl⟩ HONE.out h7).mono ?_
  rintro e w3 ⟨a3, c3, rfl, h8⟩
  clear h6 h7
  try dsimp only
  try simp only [Act.put, List.setIfInBounds_toArray, List.set_cons_zero, List.set_cons_succ]
  refine hK _ _ (_) ((fun _ h => h)) h8.right ?_
  clear hK K
  refine wpSeqM_act (by rfl) (fun K hK => ?_)
  go_simp
  try dsimp only
  try simp only [Act.put, List.setIfInBounds_toArray, List.set_cons_zero, List.set_cons_succ]
  refine hK _ _ (_) ((fun _ h => h)) h8.right ?_
  clear hK K
  repeat (first
    | (refine wpSeqM_run (by rfl) h8.right (fun K hK => ⟨?_, ?_, ?_⟩); rotate_left; (· (intro wS hSw; go_simp <;> with_reducible rfl)); simp only [Act.put, List.setIfInBounds_toArray, List.set_cons_zero, List.set_cons_succ]; refine hK _ ?_; clear hK K)
    | (refine wpSeqM_skip (by rfl) h8.right (fun K hK => ?_); simp only [Act.put, List.setIfInBounds_toArray, List.set_cons_zero, List.set_cons_succ]; refine hK _ ?_; clear hK K))
  have c1 : w3.cell? ⟨p, 0, none⟩ = some (.slice a L.length cap) := h8.right.cell 0
  have f1 := h8.right.free 0
  have h9 := (h8.s2.setCell 0 (.slice a3 (L.length + 1) c3))
  refine wpSeqM_last (by rfl) (fun K hK => ?_)
  go_simp
  refine hK _ _ ?_
  clear c1 f1 h8
  generalize w3.setCell ⟨p, 0, none⟩ _ = w4 at h9 ⊢
  obtain ⟨L', hL'⟩ : ∃ L', L.take k ++ (f, Value.slice a1 n1 e1, Value.slice a2 n2 e2) :: L.drop k = L' := ⟨_, rfl⟩
  have hl' : L.length + 1 = L'.length := by rw [← hL', List.length_append, List.length_take, List.length_cons, List.length_drop]; omega
  have t1 : L'.take k = L.take k := by rw [← hL', List.take_left' (by rw [List.length_take]; omega)]
  have t2 : L'.drop (k + 1) = L.drop k := by
    rw [← hL', List.drop_append, List.length_take, List.drop_of_length_le (by rw [List.length_take]; omega), show k + 1 - min k L.length = 1 from by omega]
    rfl
  have h10 : Sat u w4 (ownRow 75 4 (.slice a3 (L.length + 1) c3) (L.length + 1) (cellsL L') * (own p (headD (.slice a3 (L.length + 1) c3) d) * (own b (.cells #[.string (str f.name), (.slice a1 n1 e1), (.slice a2 n2 e2), .bool f.born] 75 (0, 0)) * (roL L * (roB (.slice a1 n1 e1) f.dry * (roB (.slice a2 n2 e2) f.wet * F)))))) := by
    rw [← hL']
    exact h9.s2
  rw [hl'] at h10 ⊢
  have HL' := Lib.hid hL'
  have HL2 := Lib.hid hl'
  have T1 := Lib.hid t1
  have T2 := Lib.hid t2
  have y1 : (k : Int) < L'.length := by omega
  have hkl' : k < L'.length := by omega
  have hne : ∃ g, a3 = some ⟨g, 0, none⟩ := by
    obtain ⟨g, _, _, hv, _⟩ := files_block h10 (by omega)
    cases hv
    exact ⟨g, rfl⟩
  obtain ⟨g, rfl⟩ := hne
  clear h9 hL' hl' t1 t2
  have c0 : w4.cell? ⟨p, 0, none⟩ = some (.slice (some ⟨g, 0, none⟩) L'.length c3) := h10.right.cell 0
  clear c0
  go_wp2_with fail
  refine wp_region_seq [(0, true), (1, true), (2, true), (3, true), (4, true), (5, true), (6, true), (7, false)] (fun x => Sat u x (own p (headD (.slice (some ⟨g, 0, none⟩) L'.length c3) d) * (own b (.cells #[.string (str f.name), (.slice a1 n1 e1), (.slice a2 n2 e2), .bool f.born] 75 (0, 0)) * (roL L * (roB (.slice a1 n1 e1) f.dry * (roB (.slice a2 n2 e2) f.wet * F)))))) (by kernel_rfl) (by kernel_rfl) (fun _ _ _ _ _ h => h) ?_
  simp only [pickOps, Array.getD_eq_getD_getElem?, List.getElem?_toArray, List.getElem?_cons_succ, List.getElem?_cons_zero, Option.getD_some]
  have h11 := h10.drew
  generalize w4.drew = w5 at h11 ⊢
  clear h10
  repeat (first
    | (refine wpSeq_run (by rfl) h11.right (fun K hK => ⟨?_, ?_, ?_⟩); rotate_left; (· (intro wS hSw; have c0 : wS.cell? ⟨p, 0, none⟩ = some (.slice (some ⟨g, 0, none⟩) L'.length c3) := hSw.cell 0; have d0 := hSw.right.cell 0; have d1 := hSw.right.cell 1; have d2 := hSw.right.cell 2; have d3 := hSw.right.cell 3; go_simp <;> with_reducible rfl)); simp only [Act.put, List.setIfInBounds_toArray, List.set_cons_zero, List.set_cons_succ]; refine hK _ ?_; clear hK K)
    | (refine wpSeq_skip (by rfl) h11.right (fun K hK => ?_); simp only [Act.put, List.setIfInBounds_toArray, List.set_cons_zero, List.set_cons_succ]; refine hK _ ?_; clear hK K))
  obtain ⟨hc, h7⟩ := h11.set_file k hkl' (f, .slice a1 n1 e1, .slice a2 n2 e2)
  obtain ⟨⟨z0, c0⟩, f0⟩ := hc 0 (by decide)
  obtain ⟨⟨z1, c1⟩, f1⟩ := hc 1 (by decide)
  obtain ⟨⟨z2, c2⟩, f2⟩ := hc 2 (by decide)
  obtain ⟨⟨z3, c3'⟩, f3⟩ := hc 3 (by decide)
  simp only [Nat.add_zero] at c0 f0
  have h12 := h7.right
  rw [T1.out, T2.out] at h7
  have hput := put_at d.files OK.out.sorted f
  rw [HH.out, if_neg (by decide), HPK.out] at hput
  have h9 := isD_put (F := F) (n := L'.length) (Nat.le_refl k) (by rw [← HL2.out]; omega) hkl HL.out hput HO.out h7.s3.right
  have H9 := Lib.hid h9
  clear h7 h9 h11 hc hput
  refine wpSeq_act (by rfl) (fun K hK => ?_)
  go_simp
  try dsimp only
  try simp only [Act.put, List.setIfInBounds_toArray, List.set_cons_zero, List.set_cons_succ]
  refine hK _ _ (_) ((fun _ h => h)) h12 ?_
  clear hK K
  refine wpSeq_end ?_
  go_wp2_with fail
  go_end0
  exact ⟨rfl, H9.out⟩

theorem lay_any (u w : World) (F : HProp) (p : Nat) (d : DiskP) (f : FileP) (dv wv : Value) (hok : OkD { d with files := putF f d.files }) (hs : Sat u w (isD p d * (roB dv f.dry * (roB wv f.wet * F)))) :
    Calls Tryz.prog 52 #[.pointer (some ⟨p, 0, none⟩), .agg #[.string (str f.name), dv, wv, .bool f.born]] w
      fun e w' => e = .returned (.tuple #[]) ∧ Sat u w' (isD p { d with files := putF f d.files } * F) := by
  obtain ⟨a1, e1, rfl, _, _⟩ := RowAt.len hs.right.roB_at
  obtain ⟨a2, e2, rfl, _, _⟩ := RowAt.len hs.right.right.roB_at
  cases hh : hasN d.files f.name
  · exact lay_new u w F p d f a1 a2 _ _ e1 e2 hh hok hs
  · exact lay_there u w F p d f a1 a2 _ _ e1 e2 hh hok hs
end Go.Proofs.YtlfmkiclaijokaaGreatDoor

namespace Go.Proofs.YtlfmkiclaijokaaGreatDoor
open Go.RowKit
set_option linter.unusedVariables false

theorem whole_any (u w : World) (F : HProp) (a : Option Addr) (n c : Nat) (hs : Sat u w F) :
    Calls Tryz.prog 78 #[.slice a n c] w fun e w' => e = .returned (.tuple #[.slice a n c, .int .i64 0]) ∧ Sat u w' F := by
  go_enter Tryz.func78, Tryz.ntmps78
  go_wp2_with fail
  go_ret2
  exact ⟨rfl, hs⟩

/-- What a drying hands back: the kept bytes, or nothing. -/
def leftV (a : Option Addr) (c : Nat) (r : Bs × Int) : Value := if r.2 = 0 then .slice a r.1.length c else .slice none 0 0

set_option maxHeartbeats 1000000 in
theorem cut1_any (u w : World) (F : HProp) (b : Nat) (k : Int) (a : Option Addr) (xs : Bs) (c : Nat) (hc : xs.length ≤ c) (hl : xs.length ≤ 40000000) (hs : Sat u w (own b (.cells #[.int .i64 k] 3 (0, 0)) * F)) :
    Calls Tryz.prog 77 #[.slice a xs.length c, .pointer (some ⟨b, 0, none⟩)] w
      fun e w' => e = .returned (.tuple #[leftV a c (cutL k xs), .int .i64 (cutL k xs).2]) ∧ Sat u w' (own b (.cells #[.int .i64 k] 3 (0, 0)) * F) := by
  have c0 := hs.cell 0
  simp only [List.getElem?_toArray, List.getElem?_cons_zero] at c0
  by_cases h : k < 0 ∨ (xs.length : Int) < k
  · have e1 : cutL k xs = ([], 2) := by unfold cutL; rw [if_pos h]
    rw [e1, show leftV a c ([], 2) = .slice none 0 0 from rfl]
    clear e1
    rcases h with h | h
    · go_enter Tryz.func77, Tryz.ntmps77
      go_wp2_with fail
      go_ret2
      exact ⟨rfl, hs⟩
    · have h2 : ¬ k < 0 := by omega
      go_enter Tryz.func77, Tryz.ntmps77
      go_wp2_with fail
      go_ret2
      exact ⟨rfl, hs⟩
  · obtain ⟨m, rfl⟩ : ∃ m : Nat, k = m := ⟨k.toNat, by omega⟩
    have hm : m ≤ xs.length := by omega
    have e1 : cutL m xs = (xs.take m, 0) := by unfold cutL; rw [if_neg h]; rfl
    rw [e1, show leftV a c (xs.take m, 0) = .slice a m c from by unfold leftV; rw [if_pos rfl, List.length_take, Nat.min_eq_left hm]]
    clear e1 h
    have h1 : ¬ ((m : Int) < 0) := by omega
    have h2 : ¬ ((xs.length : Int) < m) := by omega
    have h3 : (m : Int) ≤ c := by omega
    go_enter Tryz.func77, Tryz.ntmps77
    go_wp2_with fail
    go_ret2
    exact ⟨rfl, hs⟩
end Go.Proofs.YtlfmkiclaijokaaGreatDoor

namespace Go.Proofs.YtlfmkiclaijokaaGreatDoor
open Go.RowKit
set_option linter.unusedVariables false

theorem roL_del {u w : World} {F : HProp} {L : List FileV} {k : Nat} (m : Nat) (hm : k ≤ m) (h : Sat u w (roL L * F)) : Sat u w (roL (L.take k ++ L.drop m) * F) := by
  have e : L = L.take k ++ ((L.drop k).take (m - k) ++ L.drop m) := by
    rw [show L.drop m = (L.drop k).drop (m - k) from by rw [List.drop_drop]; congr 1; omega, List.take_append_drop, List.take_append_drop]
  have h2 : Sat u w (roL ((L.drop k).take (m - k)) * (roL (L.take k) * (roL (L.drop m) * F))) := by
    rw [e, roL_append, roL_append] at h
    exact h.eq (by ac_rfl)
  refine h2.right.eq ?_
  rw [roL_append]
  ac_rfl

theorem isD_del {u w : World} {G : HProp} {p : Nat} {d : DiskP} {L : List FileV} {a : Option Addr} {c n k : Nat} {src : Bs} {f : FileP} (ok : OkD d) (hf : getF d.files src = some f) (hL : L.map (·.1) = d.files) (hk : posN d.files src = k) (hkl : k < L.length) (hn : n = k + (L.length - (k + 1)))
    (h : Sat u w (own p (headD (.slice a n c) d) * (ownRow 75 4 (.slice a n c) n (cellsL (L.take k ++ L.drop (k + 1))) * (roL L * G)))) : Sat u w (isD p { d with files := delF src d.files } * G) := by
  have hl : (L.take k ++ L.drop (k + 1)).length = n := by rw [List.length_append, List.length_take, List.length_drop, hn]; omega
  subst hl
  refine isD_iff.2 ⟨okD_del ok hf, .slice a (L.take k ++ L.drop (k + 1)).length c, ?_⟩
  have h2 := roL_del (F := own p (headD (.slice a (L.take k ++ L.drop (k + 1)).length c) d) * (ownRow 75 4 (.slice a (L.take k ++ L.drop (k + 1)).length c) (L.take k ++ L.drop (k + 1)).length (cellsL (L.take k ++ L.drop (k + 1))) * G)) (k + 1) (Nat.le_succ k) (h.eq (by ac_rfl) : Sat u w (roL L * _))
  have hdel := del_at d.files ok.sorted src (by unfold hasN; rw [hf]; rfl)
  rw [hk] at hdel
  have h3 : Sat u w (isFiles (.slice a (L.take k ++ L.drop (k + 1)).length c) (delF src d.files) * (own p (headD (.slice a (L.take k ++ L.drop (k + 1)).length c) d) * G)) :=
    isFiles_iff.2 ⟨L.take k ++ L.drop (k + 1), by rw [hdel, ← hL, List.map_append, List.map_take, List.map_drop], h2.eq (by ac_rfl)⟩
  exact h3.s2

theorem roB_take {u w : World} {F : HProp} {a : Option Addr} {n c : Nat} {xs : Bs} (m : Nat) (hm : m ≤ xs.length) (h : Sat u w (roB (.slice a n c) xs * F)) : Sat u w (roB (.slice a m c) (xs.take m) * F) := by
  rcases Sat.roB_iff.1 h with ⟨hv, hx, h2⟩ | ⟨g, o, c', cur, e, fr, hv, q1, q2, q3, h2⟩
  · cases hv
    subst hx
    have : m = 0 := by simpa using hm
    subst this
    exact h2.roB_nil
  · cases hv
    have := h.roB_part 0 m c (by omega) (by omega) q2
    rw [List.drop_zero, Nat.add_zero] at this
    exact this

theorem Sat.drop34 {u w : World} {A B C D E : HProp} (h : Sat u w (A * (B * (C * (D * E))))) : Sat u w (A * (B * E)) := (h.eq (show _ = C * (D * (A * (B * E))) by ac_rfl)).right.right
end Go.Proofs.YtlfmkiclaijokaaGreatDoor

namespace Go.Proofs.YtlfmkiclaijokaaGreatDoor
open Go.RowKit
set_option linter.unusedVariables false

theorem enters {P : Program} {f : FuncId} {fn : Func} (hf : P.funcs[f]? = some fn) (hname : (fn.name == "runtime.NumGoroutine") = false) (hb : fn.body.isNone = false) (args : Array Value) (w : World) : (callFunc f args).run P w = .ok (.enter f args) w := by
  have h1 : fn.name ≠ "runtime.NumGoroutine" := by simpa using hname
  have h2 : fn.body ≠ none := fun e => by rw [e] at hb; cases hb
  simp [callFunc, hf, h1, h2]

/-- What a closure of a drying must do. -/
def Dries (fid : FuncId) (caps : Array Value) (C : HProp) (left : Bs → Bs × Int) : Prop :=
  (∀ args w, (callFunc fid args).run Tryz.prog w = .ok (.enter fid args) w) ∧
  (∀ xs, (left xs).2 = 0 → ∃ m, m ≤ xs.length ∧ (left xs).1 = xs.take m) ∧
  ∀ (u w : World) (G : HProp) (a : Option Addr) (xs : Bs) (c : Nat), xs.length ≤ c → xs.length ≤ 40000000 → Sat u w (C * G) →
    Calls Tryz.prog fid (#[.slice a xs.length c] ++ caps) w fun e w' => e = .returned (.tuple #[leftV a c (left xs), .int .i64 (left xs).2]) ∧ Sat u w' (C * G)

theorem dries_whole : Dries 78 #[] (fact True) wholeL := by
  refine ⟨fun args w => enters Tryz.func78 (by kernel_rfl) (by kernel_rfl) args w, fun xs _ => ⟨xs.length, Nat.le_refl _, by rw [List.take_length]; rfl⟩, fun u w G a xs c hc hl hs => ?_⟩
  exact (whole_any u w _ a xs.length c hs).mono fun e w' h => h

theorem dries_cut (b : Nat) (k : Int) : Dries 77 #[.pointer (some ⟨b, 0, none⟩)] (own b (.cells #[.int .i64 k] 3 (0, 0))) (cutL k) := by
  refine ⟨fun args w => enters Tryz.func77 (by kernel_rfl) (by kernel_rfl) args w, fun xs h => ?_, fun u w G a xs c hc hl hs => ?_⟩
  · unfold cutL at h ⊢
    split at h
    · cases h
    · next hk =>
      rw [if_neg hk]
      exact ⟨k.toNat, by omega, rfl⟩
  · exact (cut1_any u w G b k a xs c hc hl hs).mono fun e w' h => h

theorem texts2 {u w : World} {F : HProp} {b : Nat} {x y : Bs} (hl1 : x.length ≤ 1000000000) (hl2 : y.length ≤ 1000000000) (h : Sat u w (own b (.cells #[.string (str x), .string (str y)] 9 (0, 0)) * F)) : TextsAt w (.slice (some ⟨b, 0, none⟩) 2 2) [x, y] := by
  refine ⟨.inr ⟨⟨b, 0, none⟩, 2, rfl, Nat.le_refl _, by decide, fun j v hv => ?_⟩, fun s hs => ?_⟩
  · rw [addr_add, h.cell]
    simpa using hv
  · simp only [List.mem_cons, List.not_mem_nil, or_false] at hs
    rcases hs with rfl | rfl
    · exact hl1
    · exact hl2

theorem row_at_get {fs : List FileP} (hs : SortedF fs) {n : Bs} {f : FileP} (h : getF fs n = some f) : fs[posN fs n]? = some f := by
  have h9 := get_at fs hs n
  rw [h] at h9
  rcases hy : fs[posN fs n]? with _ | y
  · rw [hy] at h9; cases h9
  · rw [hy, Option.bind_some] at h9
    split at h9
    · exact h9.symm
    · cases h9

/-- A file of a disk, where it lies. -/
theorem disk_at {u w : World} {G : HProp} {p : Nat} {d : DiskP} {n : Bs} {f : FileP} (h : Sat u w (isD p d * G)) (hg : getF d.files n = some f) :
    ∃ g cap L a1 c1 a2 c2, OkD d ∧ L.map (·.1) = d.files ∧ posN d.files n < L.length ∧ L.length ≤ 1000000 ∧ L[posN d.files n]? = some ((f, .slice a1 f.dry.length c1, .slice a2 f.wet.length c2) : FileV) ∧
      Sat u w (own p (headD (.slice (some ⟨g, 0, none⟩) L.length cap) d) * (ownRow 75 4 (.slice (some ⟨g, 0, none⟩) L.length cap) L.length (cellsL L) * (roL L * G))) := by
  obtain ⟨ok, v, h3⟩ := isD_iff.1 h
  obtain ⟨L, hL, h4⟩ := isFiles_iff.1 h3.s2
  have hlen : L.length = d.files.length := by rw [← hL, List.length_map]
  obtain ⟨_, hkl⟩ := split_at d.files ok.sorted n f hg
  obtain ⟨g, cap, cur, hv, _⟩ := files_block h4 (by omega)
  subst hv
  have hk : posN d.files n < L.length := by omega
  have hx : L[posN d.files n]? = some L[posN d.files n] := List.getElem?_eq_getElem hk
  have e1 : (L.map (·.1))[posN d.files n]? = d.files[posN d.files n]? := by rw [hL]
  rw [List.getElem?_map, hx, row_at_get ok.sorted hg] at e1
  have e2 : L[posN d.files n].1 = f := Option.some.inj e1
  obtain ⟨b1, b2⟩ := roL_at h4.right hx
  obtain ⟨a1, c1, r1, _⟩ := RowAt.len b1
  obtain ⟨a2, c2, r2, _⟩ := RowAt.len b2
  have hmany := ok.many
  refine ⟨g, cap, L, a1, c1, a2, c2, ok, hL, hk, by omega, ?_, h4.eq (by ac_rfl)⟩
  rw [hx]
  congr 1
  rw [e2] at r1 r2
  exact Prod.ext e2 (Prod.ext r1 r2)

theorem isD_back {u w : World} {G : HProp} {p : Nat} {d : DiskP} {L : List FileV} {a : Option Addr} {c n : Nat} (ok : OkD d) (hL : L.map (·.1) = d.files) (hn : n = L.length)
    (h : Sat u w (own p (headD (.slice a n c) d) * (ownRow 75 4 (.slice a n c) n (cellsL L) * (roL L * G)))) : Sat u w (isD p d * G) := by
  subst hn
  refine isD_iff.2 ⟨ok, .slice a L.length c, ?_⟩
  have h2 : Sat u w (isFiles (.slice a L.length c) d.files * (own p (headD (.slice a L.length c) d) * G)) := isFiles_iff.2 ⟨L, hL, h.eq (by ac_rfl)⟩
  exact h2.s2

section
variable (u w : World) (F : HProp) (p : Nat) (d : DiskP) (src dst : Bs) (fid : FuncId) (caps : Array Value) (C : HProp) (left : Bs → Bs × Int)

/-- What dries promises. -/
abbrev DriesDoes : Prop := Calls Tryz.prog 76 #[.pointer (some ⟨p, 0, none⟩), .string (str src), .string (str dst), .func (.func fid) #[] caps] w
      fun e w' => e = .returned (.int .i64 (driesD d src dst left).1) ∧ Sat u w' (isD p (driesD d src dst left).2 * (C * F))

set_option maxRecDepth 100000 in
set_option maxHeartbeats 4000000 in
theorem dries_bars (hl1 : src.length ≤ 1000000000) (hl2 : dst.length ≤ 1000000000) (hs : Sat u w (isD p d * (C * F))) (hn : ¬ barsD d [src, dst] = 0) : DriesDoes u w F p d src dst fid caps C left := by
  unfold DriesDoes
  rw [show driesD d src dst left = (barsD d [src, dst], d) from by unfold driesD; rw [if_pos hn]]
  have h1 := (hs.alloc (.cells #[.string (str src), .string (str dst)] 9)).s2
  have H1 := Lib.hid h1.s2.right
  clear hs
  go_enter Tryz.func76, Tryz.ntmps76
  go_wp2_with fail
  refine (bars_any u _ _ p d _ [src, dst] h1 (texts2 hl1 hl2 h1.s2)).mono ?_
  rintro e w1 ⟨rfl, rfl⟩
  dsimp only
  clear h1
  go_wp2_with fail
  go_ret
  exact ⟨rfl, H1.out⟩

set_option maxRecDepth 100000 in
set_option maxHeartbeats 4000000 in
theorem dries_none (hl1 : src.length ≤ 1000000000) (hl2 : dst.length ≤ 1000000000) (hs : Sat u w (isD p d * (C * F))) (hn : barsD d [src, dst] = 0) (hg : getF d.files src = none) : DriesDoes u w F p d src dst fid caps C left := by
  unfold DriesDoes
  rw [show driesD d src dst left = (5, d) from by unfold driesD; rw [if_neg (by simp [hn]), hg]]
  have h1 := (hs.alloc (.cells #[.string (str src), .string (str dst)] 9)).s2
  have hh : hasN d.files src = false := by unfold hasN; rw [hg]; rfl
  have HH := Lib.hid hh
  have HN := Lib.hid hn
  clear hs hn hg hh
  go_enter Tryz.func76, Tryz.ntmps76
  go_wp2_with fail
  refine (bars_any u _ _ p d _ [src, dst] h1 (texts2 hl1 hl2 h1.s2)).mono ?_
  rintro e w1 ⟨rfl, rfl⟩
  rw [HN.out]
  dsimp only
  go_wp2_with fail
  refine (find_any u _ _ p d src h1).mono ?_
  rintro e w2 ⟨rfl, h2⟩
  rw [HH.out]
  dsimp only
  have H2 := Lib.hid h2.s2.right
  clear h1 h2
  go_wp2_with fail
  go_ret
  exact ⟨rfl, H2.out⟩

set_option maxRecDepth 100000 in
set_option maxHeartbeats 8000000 in
theorem dries_some (f : FileP) (hf : Dries fid caps C left) (hl1 : src.length ≤ 1000000000) (hl2 : dst.length ≤ 1000000000) (hs : Sat u w (isD p d * (C * F))) (hn : barsD d [src, dst] = 0) (hg : getF d.files src = some f) : DriesDoes u w F p d src dst fid caps C left := by
  unfold DriesDoes
  have hd : driesD d src dst left = if (left f.all).2 ≠ 0 then ((left f.all).2, d) else if stepOk d then (0, { stepD d with files := putF ⟨dst, (left f.all).1, [], true⟩ (delF src d.files) }) else (40, stepD d) := by unfold driesD; rw [if_neg (by simp [hn]), hg]
  generalize driesD d src dst left = R at hd
  have HD := Lib.hid hd
  clear hd
  have h1 := (hs.alloc (.cells #[.string (str src), .string (str dst)] 9)).s2
  have hh : hasN d.files src = true := by unfold hasN; rw [hg]; rfl
  have HH := Lib.hid hh
  have HN := Lib.hid hn
  have HG := Lib.hid hg
  have HF := Lib.hid hf
  clear hs hn hg hh hf
  go_enter Tryz.func76, Tryz.ntmps76
  go_wp2_with fail
  refine (bars_any u _ _ p d _ [src, dst] h1 (texts2 hl1 hl2 h1.s2)).mono ?_
  rintro e w1 ⟨rfl, rfl⟩
  rw [HN.out]
  dsimp only
  go_wp2_with fail
  refine (find_any u _ _ p d src h1).mono ?_
  rintro e w2 ⟨rfl, h2⟩
  rw [HH.out]
  dsimp only
  clear h1
  obtain ⟨g, cap, L, a1, c1, a2, c2, ok, hL, hkl, hlb, hx, h4⟩ := disk_at h2 HG.out
  obtain ⟨g', hgg, hcells⟩ := file_cells h4.s2 hx
  cases hgg
  obtain ⟨d0, d1, d2, d3⟩ := hcells w2 h4.s2
  have c0 : w2.cell? ⟨p, 0, none⟩ = some (.slice (some ⟨g, 0, none⟩) L.length cap) := h4.cell 0
  have hfs := ok.size f (getF_name HG.out).2
  unfold FileP.size at hfs
  have OK := Lib.hid ok
  have HX := Lib.hid hx
  have HL := Lib.hid hL
  have y1 : (posN d.files src : Int) < L.length := by omega
  clear hcells ok hx hL h2
  dsimp only at d0 d1 d2 d3
  generalize hk : posN d.files src = k at HX hkl y1 d0 d1 d2 d3 ⊢
  have HK := Lib.hid hk
  clear hk
  go_wp2_with fail
  refine (fall_any u w2 _ (str f.name) _ _ f.born f.dry f.wet h4 (fun w' h => roL_at (x := (f, .slice a1 f.dry.length c1, .slice a2 f.wet.length c2)) h.right.right HX.out) (by omega) (by omega)).mono ?_
  rintro e w3 ⟨a3, c3, rfl, h5⟩
  dsimp only
  clear c0 d0 d1 d2 d3 h4
  obtain ⟨_, _, hv3, hc3, _⟩ := h5.row_at.len
  cases hv3
  have h6 : Sat u w3 (C * (ownB (.slice a3 f.all.length c3) f.all * (own p (headD (.slice (some ⟨g, 0, none⟩) L.length cap) d) * (ownRow 75 4 (.slice (some ⟨g, 0, none⟩) L.length cap) L.length (cellsL L) * (roL L * (own w.heap.size (.cells #[.string (str src), .string (str dst)] 9 (0, 0)) * F)))))) := h5.eq (by show _ = C * (ownB (.slice a3 (f.dry ++ f.wet).length c3) (f.dry ++ f.wet) * _); ac_rfl)
  have hcall := HF.out.1
  go_wp2_with fail
  clear hcall
  rw [show f.dry.length + f.wet.length = f.all.length from by unfold FileP.all; rw [List.length_append]]
  refine (HF.out.2.2 u w3 _ a3 f.all c3 hc3 (by show (f.dry ++ f.wet).length ≤ _; rw [List.length_append]; omega) h6).mono ?_
  rintro e w4 ⟨rfl, h7⟩
  dsimp only
  have h8 : Sat u w4 (isD p d * (C * (ownB (.slice a3 f.all.length c3) f.all * (own w.heap.size (.cells #[.string (str src), .string (str dst)] 9 (0, 0)) * F)))) := isD_back OK.out HL.out rfl (h7.eq (by ac_rfl))
  have hpre := HF.out.2.1 f.all
  generalize hr : left f.all = r at hpre
  obtain ⟨kept, err⟩ := r
  have HR := Lib.hid hr
  have HP := Lib.hid hpre
  clear h5 h6 h7 hr hpre
  by_cases he : err = 0
  · subst he
    rw [show leftV a3 c3 (kept, 0) = .slice a3 kept.length c3 from by unfold leftV; rw [if_pos rfl]]
    obtain ⟨m, hm, hkept⟩ := HP.out rfl
    have HKEPT := Lib.hid hkept
    clear hkept
    go_wp2_with fail
    refine (dstep_any u _ _ p d h8).mono ?_
    rintro e w5 ⟨rfl, h9⟩
    dsimp only
    clear h8
    rcases hst : stepOk d with _ | _
    · have HST := Lib.hid hst
      have h10 := h9.drop34
      have H10 := Lib.hid h10
      clear hst h9 h10
      go_wp2_with fail
      go_ret
      have e := HD.out
      rw [HR.out, if_neg (by simp), HST.out, if_neg (by simp)] at e
      rw [e]
      exact ⟨rfl, H10.out⟩
    · have HST := Lib.hid hst
      clear hst
      have hg2 : getF (stepD d).files src = some f := by rw [stepD_files]; exact HG.out
      obtain ⟨g2, cap2, L2, a4, c4, a5, c5, ok2, hL2, hkl2, hlb2, hx2, h10⟩ := disk_at h9 hg2
      have hk2 : posN (stepD d).files src = k := by rw [stepD_files]; exact HK.out
      rw [hk2] at hkl2 hx2
      have c0 : w5.cell? ⟨p, 0, none⟩ = some (.slice (some ⟨g2, 0, none⟩) L2.length cap2) := h10.cell 0
      have hone := roL_one h10.right.right
      have OK2 := Lib.hid ok2
      have HL2 := Lib.hid hL2
      have HK2 := Lib.hid hk2
      have HG2 := Lib.hid hg2
      have q1 : IntKind.i64.wrap ((k : Int) + 1) = (k : Int) + 1 := by rw [IntKind.wrap_i64]; omega
      clear ok2 hL2 hk2 hg2 hx2 h9
      go_wp2_with fail
      refine (delete_any u w5 _ _ cap2 L2 k (k + 1) (by omega) (by omega) hlb2 hone h10.s2).mono ?_
      rintro e w6 ⟨rfl, h11⟩
      dsimp only
      generalize hn : k + (L2.length - (k + 1)) = n at h11 ⊢
      have HNN := Lib.hid hn
      clear hn h10 c0
      have c1 : w6.cell? ⟨p, 0, none⟩ = some (.slice (some ⟨g2, 0, none⟩) L2.length cap2) := h11.right.cell 0
      have f1 := h11.right.free 0
      have h12 := h11.s2.setCell 0 (.slice (some ⟨g2, 0, none⟩) n cap2)
      clear h11
      have h13 := isD_del OK2.out HG2.out HL2.out HK2.out hkl2 HNN.out.symm h12
      have h14 : Sat u (w6.setCell ⟨p, 0, none⟩ (.slice (some ⟨g2, 0, none⟩) n cap2)) (ownRow 5 1 (.slice a3 f.all.length c3) f.all.length (f.all.map B) * (isD p { stepD d with files := delF src (stepD d).files } * (C * (own w.heap.size (.cells #[.string (str src), .string (str dst)] 9 (0, 0)) * F)))) := h13.s3
      have h15 := roB_take m hm h14.roB_own
      rw [← HKEPT.out] at h15
      have h16 := (h15.s2.monoR fun r hr => hr).eq (show _ = isD p { stepD d with files := delF src (stepD d).files } * (roB (.slice a3 m c3) kept * (C * (own w.heap.size (.cells #[.string (str src), .string (str dst)] 9 (0, 0)) * F))) from rfl)
      have hml : m = kept.length := by rw [HKEPT.out, List.length_take]; omega
      have h17 : Sat u (w6.setCell ⟨p, 0, none⟩ (.slice (some ⟨g2, 0, none⟩) n cap2)) (isD p { stepD d with files := delF src (stepD d).files } * (roB (.slice a3 kept.length c3) kept * (roB (.slice none 0 0) [] * (C * (own w.heap.size (.cells #[.string (str src), .string (str dst)] 9 (0, 0)) * F))))) := by
        rw [← hml]
        exact (h16.roB_nil.eq (by ac_rfl))
      have hsz : (⟨dst, kept, [], true⟩ : FileP).size ≤ f.size := by
        show kept.length + 0 ≤ f.dry.length + f.wet.length
        have : f.all.length = f.dry.length + f.wet.length := List.length_append
        omega
      have OK3 := Lib.hid (okD_dry OK2.out HG2.out ⟨dst, kept, [], true⟩ hsz)
      clear h12 h13 h14 h15 h16 hml hsz
      go_wp2_with fail
      refine (lay_any u _ _ p { stepD d with files := delF src (stepD d).files } ⟨dst, kept, [], true⟩ _ _ OK3.out h17).mono ?_
      rintro e w8 ⟨rfl, h18⟩
      dsimp only
      have H18 := Lib.hid h18
      clear h17 h18
      go_wp2_with fail
      go_ret
      have e := HD.out
      rw [HR.out, if_neg (by simp), HST.out, if_pos rfl] at e
      rw [e]
      refine ⟨rfl, ?_⟩
      have h19 := H18.out
      rw [stepD_files] at h19
      exact (h19.eq (show _ = own w.heap.size (.cells #[.string (str src), .string (str dst)] 9 (0, 0)) * (isD p { stepD d with files := putF ⟨dst, kept, [], true⟩ (delF src d.files) } * (C * F)) by ac_rfl)).right
  · have H8 := Lib.hid h8
    generalize leftV a3 c3 (kept, err) = lv
    have hne : (err != 0) = true := by simpa using he
    clear h8
    go_wp2_with fail
    go_ret
    have e := HD.out
    rw [HR.out, if_pos he] at e
    rw [e]
    exact ⟨rfl, H8.out.drop34⟩
end
end Go.Proofs.YtlfmkiclaijokaaGreatDoor

namespace Go.Proofs.YtlfmkiclaijokaaGreatDoor
open Go.RowKit
set_option linter.unusedVariables false

section
variable (u w : World) (F : HProp) (p : Nat) (d : DiskP)

theorem dries_any (src dst : Bs) (fid : FuncId) (caps : Array Value) (C : HProp) (left : Bs → Bs × Int) (hf : Dries fid caps C left) (hl1 : src.length ≤ 1000000000) (hl2 : dst.length ≤ 1000000000) (hs : Sat u w (isD p d * (C * F))) : DriesDoes u w F p d src dst fid caps C left := by
  by_cases hn : barsD d [src, dst] = 0
  · rcases hg : getF d.files src with _ | f
    · exact dries_none u w F p d src dst fid caps C left hl1 hl2 hs hn hg
    · exact dries_some u w F p d src dst fid caps C left f hf hl1 hl2 hs hn hg
  · exact dries_bars u w F p d src dst fid caps C left hl1 hl2 hs hn

theorem dsync_any (n : Bs) (hl : n.length ≤ 1000000000) (hs : Sat u w (isD p d * F)) :
    Calls Tryz.prog 35 #[.pointer (some ⟨p, 0, none⟩), .string (str n)] w
      fun e w' => e = .returned (.int .i64 (driesD d n n wholeL).1) ∧ Sat u w' (isD p (driesD d n n wholeL).2 * F) := by
  have h0 : Sat u w (isD p d * (fact True * F)) := (Sat.fact_iff.2 ⟨trivial, hs⟩ : Sat u w (fact True * _)).s2
  have hh := Lib.hid (dries_any u w F p d n n 78 #[] (fact True) wholeL dries_whole hl hl h0)
  go_enter Tryz.func35, Tryz.ntmps35
  go_wp2_with fail
  refine hh.out.mono ?_
  rintro e w1 ⟨rfl, h2⟩
  dsimp only
  clear h0
  have H2 := Lib.hid (Sat.fact_iff.1 h2.s2).2
  clear h2
  go_wp2_with fail
  go_ret
  exact ⟨rfl, H2.out⟩

theorem drename_any (src dst : Bs) (hl1 : src.length ≤ 1000000000) (hl2 : dst.length ≤ 1000000000) (hs : Sat u w (isD p d * F)) :
    Calls Tryz.prog 44 #[.pointer (some ⟨p, 0, none⟩), .string (str src), .string (str dst)] w
      fun e w' => e = .returned (.int .i64 (driesD d src dst wholeL).1) ∧ Sat u w' (isD p (driesD d src dst wholeL).2 * F) := by
  have h0 : Sat u w (isD p d * (fact True * F)) := (Sat.fact_iff.2 ⟨trivial, hs⟩ : Sat u w (fact True * _)).s2
  have hh := Lib.hid (dries_any u w F p d src dst 78 #[] (fact True) wholeL dries_whole hl1 hl2 h0)
  go_enter Tryz.func44, Tryz.ntmps44
  go_wp2_with fail
  refine hh.out.mono ?_
  rintro e w1 ⟨rfl, h2⟩
  dsimp only
  clear h0
  have H2 := Lib.hid (Sat.fact_iff.1 h2.s2).2
  clear h2
  go_wp2_with fail
  go_ret
  exact ⟨rfl, H2.out⟩

theorem dcut_any (n : Bs) (k : Int) (hl : n.length ≤ 1000000000) (hs : Sat u w (isD p d * F)) :
    Calls Tryz.prog 34 #[.pointer (some ⟨p, 0, none⟩), .string (str n), .int .i64 k] w
      fun e w' => e = .returned (.int .i64 (driesD d n n (cutL k)).1) ∧ Sat u w' (isD p (driesD d n n (cutL k)).2 * F) := by
  have h0 := (hs.alloc (.cells #[.int .i64 k] 3)).s2
  have hh := Lib.hid (dries_any u _ F p d n n 77 #[.pointer (some ⟨w.heap.size, 0, none⟩)] (own w.heap.size (.cells #[.int .i64 k] 3 (0, 0))) (cutL k) (dries_cut _ k) hl hl h0)
  clear h0
  go_enter Tryz.func34, Tryz.ntmps34
  go_wp2_with fail
  refine hh.out.mono ?_
  rintro e w1 ⟨rfl, h2⟩
  dsimp only
  have H2 := Lib.hid h2.s2.right
  clear h2
  go_wp2_with fail
  go_ret
  exact ⟨rfl, H2.out⟩
end
end Go.Proofs.YtlfmkiclaijokaaGreatDoor
