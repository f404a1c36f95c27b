/- slices.Delete, of files. -/
import Derived.Test.YtlfmkiclaijokaaGreatDoorMk11
import Derived.Test.YtlfmkiclaijokaaGreatDoorMk5
import Derived.Test.YtlfmkiclaijokaaGreatDoorMk4
namespace Go.Proofs.YtlfmkiclaijokaaGreatDoor
open Go.RowKit
set_option linter.unusedVariables false

theorem info_file : (Tryz.prog.info? 75).map (fun i => (i.zero, i.size)) = some (some (.agg #[.string ⟨#[]⟩, .slice none 0 0, .slice none 0 0, .bool false]), 4) := by kernel_rfl

theorem info_two {P : Program} {e : TypeId} {z : Option Value} {s : Nat} (h : (P.info? e).map (fun i => (i.zero, i.size)) = some (z, s)) : ∃ i, P.info? e = some i ∧ i.zero = z ∧ i.size = s := by
  obtain ⟨i, hi, hx⟩ := Option.map_eq_some_iff.1 h
  simp only [Prod.mk.injEq] at hx
  exact ⟨i, hi, hx.1, hx.2⟩

theorem cellsL_append (L M : List FileV) : cellsL (L ++ M) = cellsL L ++ cellsL M := by unfold cellsL; rw [List.flatMap_append]

theorem cellsL_split (L : List FileV) (i : Nat) (hi : i ≤ L.length) : cellsL (L.take i) = (cellsL L).take (i * 4) ∧ cellsL (L.drop i) = (cellsL L).drop (i * 4) := by
  have h : cellsL L = cellsL (L.take i) ++ cellsL (L.drop i) := by rw [← cellsL_append, List.take_append_drop]
  have hl : (cellsL (L.take i)).length = i * 4 := by rw [cellsL_length, List.length_take]; congr 1; omega
  rw [h, List.take_left' hl, List.drop_left' hl]
  exact ⟨rfl, rfl⟩

/-- The cells of the files from j on, where they lie. -/
theorem files_from {u w : World} {F : HProp} {g : Nat} {cur : Array Value} {L : List FileV} (h : Sat u w (own g (.cells cur 75 (0, 0)) * F)) (hc : cur.toList.take (L.length * 4) = cellsL L) (j : Nat) (hj : j ≤ L.length)
    (k : Nat) (v : Value) (hv : (cellsL (L.drop j))[k]? = some v) : w.cell? ⟨g, j * 4 + k, none⟩ = some v := by
  have hk := (List.getElem?_eq_some_iff.1 hv).1
  rw [cellsL_length, List.length_drop] at hk
  rw [(cellsL_split L j hj).2, ← hc, List.getElem?_drop, List.getElem?_take, if_pos (by omega), Array.getElem?_toList] at hv
  rw [h.cell]
  exact hv

theorem cellsL_one : ∀ (L : List FileV), (∀ x ∈ L, x.2.1.oneCell' = true ∧ x.2.2.oneCell' = true) → ∀ v ∈ cellsL L, v.oneCell' = true
  | [], _, v, hv => by cases hv
  | x :: L, h, v, hv => by
    have hv' : v ∈ cellsV x ++ cellsL L := hv
    rcases List.mem_append.1 hv' with hv | hv
    · have hx := h x List.mem_cons_self
      simp only [cellsV, List.mem_cons, List.not_mem_nil, or_false] at hv
      rcases hv with rfl | rfl | rfl | rfl
      · rfl
      · exact hx.1
      · exact hx.2
      · rfl
    · exact cellsL_one L (fun y hy => h y (List.mem_cons_of_mem _ hy)) v hv

set_option maxRecDepth 100000 in
set_option maxHeartbeats 2000000 in
theorem delete_any (u w : World) (F : HProp) (a : Option Addr) (c : Nat) (L : List FileV) (i j : Nat) (hij : i < j) (hj : j ≤ L.length) (hb : L.length ≤ 1000000) (hone : ∀ x ∈ L, x.2.1.oneCell' = true ∧ x.2.2.oneCell' = true) (hs : Sat u w (ownRow 75 4 (.slice a L.length c) L.length (cellsL L) * F)) :
    Calls Tryz.prog 79 #[.slice a L.length c, .int .i64 i, .int .i64 j] w
      fun e w' => e = .returned (.slice a (i + (L.length - j)) c) ∧ Sat u w' (ownRow 75 4 (.slice a (i + (L.length - j)) c) (i + (L.length - j)) (cellsL (L.take i ++ L.drop j)) * F) := by
  obtain ⟨inf, hinf, hz, hsz⟩ := info_two info_file
  obtain ⟨g, cap, cur, hv, q1, q2, q3, q4, h1⟩ := files_block hs (by omega)
  cases hv
  have y1 : (i : Int) ≤ j := by omega
  have y2 : (j : Int) ≤ L.length := by omega
  have y3 : (i : Int) ≤ L.length := by omega
  have y4 : ¬ ((i : Int) = j) := by omega
  have y5 : (j : Int) ≤ c := by omega
  have y6 : (i : Int) ≤ c := by omega
  have y7 : (L.length : Int) ≤ c := by omega
  have Q3 := Lib.hid q3
  have Q4 := Lib.hid q4
  have HINF := Lib.hid hinf
  have HZ := Lib.hid hz
  have HSZ := Lib.hid hsz
  have HONE := Lib.hid hone
  clear hs q3 q4 hinf hz hsz hone
  go_enter Tryz.func79, Tryz.ntmps79
  go_wp2_with fail
  refine wp_region_seq [(0, true), (1, true), (2, true), (3, true), (4, true), (5, true), (6, false), (7, true)] (fun _ => True) (by kernel_rfl) (by kernel_rfl) (fun _ _ _ _ _ h => h) ?_
  simp only [pickOps, Array.getD_eq_getD_getElem?, List.getElem?_toArray, List.getElem?_cons_succ, List.getElem?_cons_zero, Option.getD_some]
  repeat (first
    | (refine wpSeq_run (by rfl) trivial (fun K hK => ⟨?_, ?_, ?_⟩); rotate_left; (· (intro wS hSw; go_simp <;> with_reducible rfl)); simp only [Act.put, List.setIfInBounds_toArray, List.set_cons_zero, List.set_cons_succ]; refine hK _ ?_; clear hK K)
    | (refine wpSeq_skip (by rfl) trivial (fun K hK => ?_); simp only [Act.put, List.setIfInBounds_toArray, List.set_cons_zero, List.set_cons_succ]; refine hK _ ?_; clear hK K))
  refine wpSeq_act (by rfl) (fun K hK => ?_)
  refine wp_append_laid _ _ 52 rfl inf Tryz.underlying52 HINF.out i c (if c = j then ⟨g, 0, none⟩ else ⟨g, j * 4, none⟩) (L.length - j) (c - j) rfl (by show (Value.slice _ _ _) = _; split <;> rfl) h1.drew (cellsL (L.drop j)) (by rw [HSZ.out, cellsL_length, List.length_drop]) ?_ ?_ (by omega) ?_ ?_
  · intro k v hv
    split
    · have hk := (List.getElem?_eq_some_iff.1 hv).1
      rw [cellsL_length, List.length_drop] at hk
      omega
    · rw [addr_add_at]
      exact files_from h1.drew Q4.out j hj k v hv
  · exact cellsL_one _ (fun x hx => HONE.out x (List.mem_of_mem_drop hx))
  · rw [HSZ.out, Q3.out, cellsL_length, List.length_drop]
    omega
  intro w2 h2
  rw [HSZ.out] at h2
  clear h1
  have hls : i * 4 + (cellsL (L.drop j)).length ≤ cur.size := by rw [Q3.out, cellsL_length, List.length_drop]; omega
  have hsize := laid_size cur (i * 4) (cellsL (L.drop j)) hls
  have htake := laid_take2 cur (i * 4) (cellsL (L.drop j)) hls
  generalize laid cur (i * 4) (cellsL (L.drop j)) = cur2 at h2 hsize htake
  have hn : (cellsL (L.drop j)).length = (L.length - j) * 4 := by rw [cellsL_length, List.length_drop]
  rw [hn] at htake
  obtain ⟨r, hr⟩ : ∃ r, i + (L.length - j) = r := ⟨_, rfl⟩
  rw [show i * 4 + (L.length - j) * 4 = r * 4 from by omega] at htake
  have hr1 : r < L.length := by omega
  have hfin : cellsL (L.take i ++ L.drop j) = cur2.toList.take (r * 4) := by
    rw [htake, cellsL_append, (cellsL_split L i (by omega)).1, ← Q4.out, List.take_take]
    congr 2
    omega
  rw [hr]
  try dsimp only
  try simp only [Act.put, List.setIfInBounds_toArray, List.set_cons_zero, List.set_cons_succ]
  refine hK _ _ (_) ((fun _ h => h)) trivial ?_
  clear hK K
  repeat (first
    | (refine wpSeq_run (by rfl) trivial (fun K hK => ⟨?_, ?_, ?_⟩); rotate_left; (· (intro wS hSw; go_simp <;> with_reducible rfl)); simp only [Act.put, List.setIfInBounds_toArray, List.set_cons_zero, List.set_cons_succ]; refine hK _ ?_; clear hK K)
    | (refine wpSeq_skip (by rfl) trivial (fun K hK => ?_); simp only [Act.put, List.setIfInBounds_toArray, List.set_cons_zero, List.set_cons_succ]; refine hK _ ?_; clear hK K))
  refine wpSeq_end ?_
  generalize (if c = j then _ else _ : Option Addr) = ad1
  have z1 : (r : Int) ≤ L.length := by omega
  have z2 : ¬ (c = r) := by omega
  have z3 : (r : Int) ≤ c := by omega
  have HR := Lib.hid hr
  have HN := Lib.hid hn
  have HSI := Lib.hid hsize
  have HFIN := Lib.hid hfin
  clear hls hn htake hr hsize hfin
  have hcl := run_clear_laid (P := Tryz.prog) (w := w2) (g := g) (cur := cur2) 52 0 inf _ Tryz.underlying52 HINF.out HZ.out (r * 4) (L.length - r) (c - r) (by omega) h2.get (by decide) (by decide) (by rw [HSI.out, Q3.out]; show _ + _ * 4 ≤ _; omega)
  have h3 := h2.laid (r * 4) (noughts (.agg #[.string ⟨#[]⟩, .slice none 0 0, .slice none 0 0, .bool false]) (L.length - r))
  have hfit : r * 4 + (noughts (.agg #[.string ⟨#[]⟩, .slice none 0 0, .slice none 0 0, .bool false]) (L.length - r)).length ≤ cur2.size := by rw [noughts_length, HSI.out, Q3.out]; show _ + _ * 4 ≤ _; omega
  have h4 := Sat.row_mk h3 (show r ≤ c by omega) q2 (by rw [laid_size _ _ _ hfit, HSI.out, Q3.out]) (by rw [laid_take _ _ _ _ hfit (Nat.le_refl _)])
  rw [← HFIN.out] at h4
  have H4 := Lib.hid h4
  clear h2 h3 h4 hfit
  go_wp2_with fail
  go_ret
  rw [HR.out]
  exact ⟨rfl, H4.out⟩
end Go.Proofs.YtlfmkiclaijokaaGreatDoor
