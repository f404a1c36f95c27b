/- others, changes. bars, size, Used. -/
import Derived.Test.YtlfmkiclaijokaaGreatDoorMk28
import Derived.Test.YtlfmkiclaijokaaGreatDoorMk4
import Derived.Deep.DeepCutAuto
namespace Go.Proofs.YtlfmkiclaijokaaGreatDoor
open Go.RowKit
set_option linter.unusedVariables false

theorem info_kept : (Tryz.prog.info? 134).map (fun i => (i.zero, i.size, i.bytes)) = some (some (.agg #[.string ⟨#[]⟩, .string ⟨#[]⟩, .string ⟨#[]⟩, .bool false]), 4, 56) := by kernel_rfl

theorem kept_row {u w : World} {F : HProp} {g : Nat} (f : FileP) {t : TypeId} {fr : Nat × Nat} (h : Sat u w (own g (.cells #[.string (str f.name), .string (str f.dry), .string (str f.wet), .bool f.born] t fr) * F)) :
    RowAt w (.slice (some ⟨g, 0, none⟩) 1 1) 1 (cellsK f) := by
  refine .inr ⟨⟨g, 0, none⟩, 1, rfl, Nat.le_refl _, by decide, fun j y hy => ?_⟩
  rw [addr_add, h.cell]
  match j, hy with
  | 0, hy => exact hy
  | 1, hy => exact hy
  | 2, hy => exact hy
  | 3, hy => exact hy
  | j + 4, hy => simp [cellsK] at hy

theorem cellsK_one (f : FileP) : ∀ y ∈ cellsK f, y.oneCell' = true := by
  intro y hy
  simp only [cellsK, List.mem_cons, List.not_mem_nil, or_false] at hy
  rcases hy with rfl | rfl | rfl | rfl <;> rfl

/-- What others answers. -/
def Othered (u : World) (G : HProp) (L : List FileP) (n : Bs) (e : Ending) (w' : World) : Prop :=
  ∃ a c, e = .returned (.slice a (delF n L).length c) ∧ Sat u w' (ownK (.slice a (delF n L).length c) (delF n L) * G)

set_option maxHeartbeats 4000000 in
theorem rothers_any (u w : World) (F : HProp) (p : Nat) (v : Value) (d : DiskP) (L : List FileP) (n : Bs) (hlb : L.length ≤ 1000000) (h2 : Sat u w (own p (headR v d) * (ownK v L * F))) :
    Calls Tryz.prog 124 #[.pointer (some ⟨p, 0, none⟩), .string (str n)] w (Othered u (own p (headR v d) * (ownK v L * F)) L n) := by
  obtain ⟨i0, hi, hz0, hz1, hz2⟩ := info_parts info_kept
  obtain ⟨a, c, rfl, hc1, hc2⟩ := h2.right.row_at.len
  have c0 := h2.cell 0
  have h30 : Sat u w (ownRow 134 4 (.slice none 0 0) (delF n (L.take 0)).length ((delF n (L.take 0)).flatMap cellsK) * (own p (headR (.slice a L.length c) d) * (ownK (.slice a L.length c) L * F))) := Sat.row_nil h2
  go_enter Tryz.func124, Tryz.ntmps124
  go_wp2_with fail
  clear c0 h2
  go_loopw [5, 6] (fun t5 t6 wr => ∃ k : Nat, k ≤ L.length ∧ t6 = .int .i64 k ∧ (∃ a' c', t5 = .slice a' (delF n (L.take k)).length c') ∧ Sat u wr (ownRow 134 4 t5 (delF n (L.take k)).length ((delF n (L.take k)).flatMap cellsK) * (own p (headR (.slice a L.length c) d) * (ownK (.slice a L.length c) L * F)))) (fun _ t _ => L.length - (intOf t).toNat)
  case atStart => exact ⟨0, Nat.zero_le _, rfl, ⟨none, 0, rfl⟩, h30⟩
  case round =>
    clear h30
    obtain ⟨k, hk, rfl, ⟨a', c', rfl⟩, h4⟩ := hrel
    have c0 := h4.s2.cell 0
    by_cases hlt : k < L.length
    · obtain ⟨x, hx⟩ : ∃ x, L[k]? = some x := ⟨L[k]'(by omega), List.getElem?_eq_getElem _⟩
      obtain ⟨g, rfl, hcells⟩ := Sat.kept (h4.eq (show _ = ownK _ L * (ownRow _ _ _ _ _ * (own p _ * F)) by ac_rfl)) hx
      obtain ⟨d0, d1, d2, d3⟩ := hcells wr (h4.eq (by ac_rfl))
      have y1 : (k : Int) < L.length := by omega
      have htk : L.take (k + 1) = L.take k ++ [x] := by
        obtain ⟨hk, rfl⟩ := List.getElem?_eq_some_iff.1 hx
        exact List.take_succ_eq_append_getElem hk
      have hdl : (delF n (L.take k)).length ≤ 1000000 := Nat.le_trans (List.length_filter_le _ _) (by rw [List.length_take]; omega)
      by_cases e : x.name = n
      · have hb : ((str x.name).toList == (str n).toList) = true := by rw [str_beq]; simp [e]
        have hD : delF n (L.take (k + 1)) = delF n (L.take k) := by
          rw [htk]; unfold delF; rw [List.filter_append]; simp [e]
        have HD := Lib.hid hD
        clear hD htk hcells hx e
        go_wp2_with fail
        go_roundw
        case rel => exact ⟨k + 1, by omega, by go_num, ⟨a', c', by rw [HD.out]⟩, by rw [HD.out]; exact h4⟩
        case measure => simp [intOf]; omega
      · have hb : ((str x.name).toList == (str n).toList) = false := by rw [str_beq]; simp [e]
        have hD : delF n (L.take (k + 1)) = delF n (L.take k) ++ [x] := by
          rw [htk]; unfold delF; rw [List.filter_append]; simp [e]
        have HD := Lib.hid hD
        clear hD htk hcells hx e
        generalize delF n (L.take k) = D at h4 HD hdl ⊢
        have h6 := h4.alloc (.cells #[.string (str x.name), .string (str x.dry), .string (str x.wet), .bool x.born] 134)
        have hr := kept_row x h6
        go_wp2_with (at_builtin; refine wpList_append_sl rfl _ _ 119 rfl i0 _ Tryz.underlying119 hi hz0 hz1 hz2 rfl (by decide) rfl rfl h6.right hr rfl (cellsK_one x) (by omega) ?_; intro a4 c4 w4 h7 hx; clear hx)
        go_roundw
        case rel => exact ⟨k + 1, by omega, by go_num, ⟨a4, c4, by rw [HD.out, List.length_append]; rfl⟩, by rw [HD.out, List.length_append, List.flatMap_append]; exact h7.eq (by simp)⟩
        case measure => simp [intOf]; omega
    · have e : k = L.length := by omega
      subst e
      rw [List.take_length] at h4 ⊢
      go_wp2_with fail
      go_ret
      exact ⟨a', c', rfl, h4⟩

/-- What changes leaves. -/
def Changed (u : World) (F : HProp) (p : Nat) (d : DiskP) (L : List FileP) (f : FileP) (e : Ending) (w' : World) : Prop :=
  e = .returned (.tuple #[]) ∧ ∃ v', Sat u w' (own p (headR v' d) * (ownK v' (delF f.name L ++ [f]) * F))

theorem changed_row {u w : World} {F : HProp} {a : Option Addr} {c : Nat} {D : List FileP} {f : FileP} (h : Sat u w (ownRow 134 4 (.slice a (D.length + 1) c) (D.length + 1) (D.flatMap cellsK ++ cellsK f) * F)) :
    Sat u w (ownK (.slice a (D.length + 1) c) (D ++ [f]) * F) := by
  unfold ownK
  rw [List.length_append, List.flatMap_append]
  exact h.eq (by simp)

set_option maxRecDepth 100000 in
set_option maxHeartbeats 4000000 in
theorem rchanges_any (u w : World) (F : HProp) (p : Nat) (v : Value) (d : DiskP) (L : List FileP) (f : FileP) (hlb : L.length ≤ 1000000) (hs : Sat u w (own p (headR v d) * (ownK v L * F))) :
    Calls Tryz.prog 106 #[.pointer (some ⟨p, 0, none⟩), keptV f] w (Changed u F p d L f) := by
  obtain ⟨i0, hi, hz0, hz1, hz2⟩ := info_parts info_kept
  have hdl : (delF f.name L).length ≤ 1000000 := Nat.le_trans (List.length_filter_le _ _) hlb
  have h2 := hs.alloc (.cells #[.string (str f.name), .string (str f.dry), .string (str f.wet), .bool f.born] 134)
  clear hs
  unfold keptV
  go_enter Tryz.func106, Tryz.ntmps106
  go_upto_region 1 with fail
  generalize hq : w.heap.size = q at h2 ⊢
  generalize w.alloc (.cells #[.string (str f.name), .string (str f.dry), .string (str f.wet), .bool f.born] 134) = w1 at h2 ⊢
  clear hq
  refine wp_region_fork [0, 1, 2, 3, 5] 4 6 [(6, false), (7, false), (8, true), (9, true), (10, false)] [(4, false), (7, false), (8, true), (9, true), (10, false)] (fun x => ∃ G, Sat u x (own q (.cells #[.string (str f.name), .string (str f.dry), .string (str f.wet), .bool f.born] 134 (0, 0)) * G)) (by kernel_rfl) (by kernel_rfl) (fun _ _ _ _ _ h => h) ?_
  simp only [pickOps, List.map_cons, List.map_nil, Array.getD_eq_getD_getElem?, List.getElem?_toArray, List.getElem?_cons_succ, List.getElem?_cons_zero, Option.getD_some]
  have h3 := h2.drew
  repeat (first
    | (refine wpSeq_run (by rfl) ⟨_, h3⟩ (fun K hK => ⟨?_, ?_, ?_⟩); rotate_left; (· (intro wS hSw; have q0 := hSw.choose_spec.cell 0; have q1 := hSw.choose_spec.cell 1; have q2 := hSw.choose_spec.cell 2; have q3 := hSw.choose_spec.cell 3; go_simp <;> with_reducible rfl)); simp only [Act.put, List.setIfInBounds_toArray, List.set_cons_zero, List.set_cons_succ]; refine hK _ ?_; clear hK K)
    | (refine wpSeq_skip (by rfl) ⟨_, h3⟩ (fun K hK => ?_); simp only [Act.put, List.setIfInBounds_toArray, List.set_cons_zero, List.set_cons_succ]; refine hK _ ?_; clear hK K))
  refine wpSeq_end ?_
  refine ⟨?_, ?_⟩
  ·
    refine wpSeq_act (by rfl) (fun K hK => ?_)
    go_simp
    refine (rothers_any u _ _ p v d L f.name hlb (h3.eq (show _ = own p _ * (ownK v L * (own q _ * F)) by ac_rfl))).mono ?_
    rintro e w2 ⟨a1, c1, rfl, h4⟩
    try dsimp only
    try simp only [Act.put, List.setIfInBounds_toArray, List.set_cons_zero, List.set_cons_succ]
    refine hK _ _ (_) ((fun _ h => h)) ⟨_, h4.eq (show _ = own q _ * (ownK _ (delF f.name L) * (own p (headR v d) * (ownK v L * F))) by ac_rfl)⟩ ?_
    clear hK K
    refine wpSeq_act (by rfl) (fun K hK => ?_)
    go_simp
    have h5 := h4.alloc (.cells #[.string (str f.name), .string (str f.dry), .string (str f.wet), .bool f.born] 134)
    have hr := kept_row f h5
    try dsimp only
    try simp only [Act.put, List.setIfInBounds_toArray, List.set_cons_zero, List.set_cons_succ]
    refine hK _ _ (_) ((fun _ h => h)) ⟨_, h5.right.eq (show _ = own q _ * (ownK _ (delF f.name L) * (own p (headR v d) * (ownK v L * F))) by ac_rfl)⟩ ?_
    clear hK K
    refine wpSeq_act (by rfl) (fun K hK => ?_)
    refine wp_append_sl _ _ 119 rfl i0 _ Tryz.underlying119 hi hz0 hz1 hz2 rfl (by decide) rfl rfl h5.right hr rfl (cellsK_one f) (by omega) ?_
    intro a4 c4 w4 h7 hx
    clear hx
    try dsimp only
    try simp only [Act.put, List.setIfInBounds_toArray, List.set_cons_zero, List.set_cons_succ]
    refine hK _ _ (_) ((fun _ h => h)) ⟨_, h7.eq (show _ = own q (.cells #[.string (str f.name), .string (str f.dry), .string (str f.wet), .bool f.born] 134 (0, 0)) * (ownRow 134 4 _ _ _ * (own p (headR v d) * (ownK v L * F))) by ac_rfl)⟩ ?_
    clear hK K
    repeat (first
      | (refine wpSeq_run (by rfl) ⟨_, h7.eq (show _ = own q (.cells #[.string (str f.name), .string (str f.dry), .string (str f.wet), .bool f.born] 134 (0, 0)) * (ownRow 134 4 _ _ _ * (own p (headR v d) * (ownK v L * F))) by ac_rfl)⟩ (fun K hK => ⟨?_, ?_, ?_⟩); rotate_left; (· (intro wS hSw; go_simp <;> with_reducible rfl)); simp only [Act.put, List.setIfInBounds_toArray, List.set_cons_zero, List.set_cons_succ]; refine hK _ ?_; clear hK K)
      | (refine wpSeq_skip (by rfl) ⟨_, h7.eq (show _ = own q (.cells #[.string (str f.name), .string (str f.dry), .string (str f.wet), .bool f.born] 134 (0, 0)) * (ownRow 134 4 _ _ _ * (own p (headR v d) * (ownK v L * F))) by ac_rfl)⟩ (fun K hK => ?_); simp only [Act.put, List.setIfInBounds_toArray, List.set_cons_zero, List.set_cons_succ]; refine hK _ ?_; clear hK K))
    have h8 : Sat u w4 (own p (headR v d) * (ownK (.slice a4 ((delF f.name L).length + 1) c4) (delF f.name L ++ [f]) * (own q _ * (ownK v L * F)))) := (changed_row h7).eq (by ac_rfl)
    have c0 := h8.cell 0
    have f0 := h8.free 0
    have h9 := h8.setCell 0 (.slice a4 ((delF f.name L).length + 1) c4)
    refine wpSeq_act (by rfl) (fun K hK => ?_)
    go_simp
    try dsimp only
    try simp only [Act.put, List.setIfInBounds_toArray, List.set_cons_zero, List.set_cons_succ]
    refine hK _ _ (_) ((fun _ h => h)) ⟨_, h9.eq (show _ = own q (.cells #[.string (str f.name), .string (str f.dry), .string (str f.wet), .bool f.born] 134 (0, 0)) * (own p _ * (ownK _ (delF f.name L ++ [f]) * (ownK v L * F))) by ac_rfl)⟩ ?_
    clear hK K
    refine wpSeq_end ?_
    go_wp2
    go_end0
    exact ⟨rfl, _, (h9.eq (show _ = (own q (.cells #[.string (str f.name), .string (str f.dry), .string (str f.wet), .bool f.born] 134 (0, 0)) * ownK v L) * (own p _ * (ownK _ (delF f.name L ++ [f]) * F)) by ac_rfl)).right⟩
  ·
    refine wpSeq_act (by rfl) (fun K hK => ?_)
    go_simp
    have h5 := h3.alloc (.cells #[.string (str f.name), .string (str f.dry), .string (str f.wet), .bool f.born] 134)
    have e0 : w1.drew.heap.size = w1.heap.size := rfl
    rw [e0] at h5
    try dsimp only
    try simp only [Act.put, List.setIfInBounds_toArray, List.set_cons_zero, List.set_cons_succ]
    refine hK _ _ (_) ((fun _ h => h)) ⟨_, h5.eq (show _ = own q (.cells #[.string (str f.name), .string (str f.dry), .string (str f.wet), .bool f.born] 134 (0, 0)) * (own _ (.cells #[.string (str f.name), .string (str f.dry), .string (str f.wet), .bool f.born] 134 (0, 0)) * (own p (headR v d) * (ownK v L * F))) by ac_rfl)⟩ ?_
    clear hK K
    refine wpSeq_act (by rfl) (fun K hK => ?_)
    go_simp
    refine (rothers_any u _ _ p v d L f.name hlb (h5.eq (show _ = own p _ * (ownK v L * (own q _ * (own w1.heap.size (.cells #[.string (str f.name), .string (str f.dry), .string (str f.wet), .bool f.born] 134 (0, 0)) * F))) by ac_rfl))).mono ?_
    rintro e w2 ⟨a1, c1, rfl, h4⟩
    have h6 : Sat u w2 (own w1.heap.size (.cells #[.string (str f.name), .string (str f.dry), .string (str f.wet), .bool f.born] 134 (0, 0)) * (ownK (.slice a1 (delF f.name L).length c1) (delF f.name L) * (own q (.cells #[.string (str f.name), .string (str f.dry), .string (str f.wet), .bool f.born] 134 (0, 0)) * (own p (headR v d) * (ownK v L * F))))) := h4.eq (by ac_rfl)
    have hr := kept_row f h6
    try dsimp only
    try simp only [Act.put, List.setIfInBounds_toArray, List.set_cons_zero, List.set_cons_succ]
    refine hK _ _ (_) ((fun _ h => h)) ⟨_, h4.eq (show _ = own q _ * (ownK _ (delF f.name L) * (own p (headR v d) * (ownK v L * (own w1.heap.size (.cells #[.string (str f.name), .string (str f.dry), .string (str f.wet), .bool f.born] 134 (0, 0)) * F)))) by ac_rfl)⟩ ?_
    clear hK K
    refine wpSeq_act (by rfl) (fun K hK => ?_)
    refine wp_append_sl _ _ 119 rfl i0 _ Tryz.underlying119 hi hz0 hz1 hz2 rfl (by decide) rfl rfl h6.right hr rfl (cellsK_one f) (by omega) ?_
    intro a4 c4 w4 h7 hx
    clear hx
    try dsimp only
    try simp only [Act.put, List.setIfInBounds_toArray, List.set_cons_zero, List.set_cons_succ]
    refine hK _ _ (_) ((fun _ h => h)) ⟨_, h7.eq (show _ = own q (.cells #[.string (str f.name), .string (str f.dry), .string (str f.wet), .bool f.born] 134 (0, 0)) * (ownRow 134 4 _ _ _ * (own p (headR v d) * (ownK v L * F))) by ac_rfl)⟩ ?_
    clear hK K
    repeat (first
      | (refine wpSeq_run (by rfl) ⟨_, h7.eq (show _ = own q (.cells #[.string (str f.name), .string (str f.dry), .string (str f.wet), .bool f.born] 134 (0, 0)) * (ownRow 134 4 _ _ _ * (own p (headR v d) * (ownK v L * F))) by ac_rfl)⟩ (fun K hK => ⟨?_, ?_, ?_⟩); rotate_left; (· (intro wS hSw; go_simp <;> with_reducible rfl)); simp only [Act.put, List.setIfInBounds_toArray, List.set_cons_zero, List.set_cons_succ]; refine hK _ ?_; clear hK K)
      | (refine wpSeq_skip (by rfl) ⟨_, h7.eq (show _ = own q (.cells #[.string (str f.name), .string (str f.dry), .string (str f.wet), .bool f.born] 134 (0, 0)) * (ownRow 134 4 _ _ _ * (own p (headR v d) * (ownK v L * F))) by ac_rfl)⟩ (fun K hK => ?_); simp only [Act.put, List.setIfInBounds_toArray, List.set_cons_zero, List.set_cons_succ]; refine hK _ ?_; clear hK K))
    have h8 : Sat u w4 (own p (headR v d) * (ownK (.slice a4 ((delF f.name L).length + 1) c4) (delF f.name L ++ [f]) * (own q _ * (ownK v L * F)))) := (changed_row h7).eq (by ac_rfl)
    have c0 := h8.cell 0
    have f0 := h8.free 0
    have h9 := h8.setCell 0 (.slice a4 ((delF f.name L).length + 1) c4)
    refine wpSeq_act (by rfl) (fun K hK => ?_)
    go_simp
    try dsimp only
    try simp only [Act.put, List.setIfInBounds_toArray, List.set_cons_zero, List.set_cons_succ]
    refine hK _ _ (_) ((fun _ h => h)) ⟨_, h9.eq (show _ = own q (.cells #[.string (str f.name), .string (str f.dry), .string (str f.wet), .bool f.born] 134 (0, 0)) * (own p _ * (ownK _ (delF f.name L ++ [f]) * (ownK v L * F))) by ac_rfl)⟩ ?_
    clear hK K
    refine wpSeq_end ?_
    go_wp2
    go_end0
    exact ⟨rfl, _, (h9.eq (show _ = (own q (.cells #[.string (str f.name), .string (str f.dry), .string (str f.wet), .bool f.born] 134 (0, 0)) * ownK v L) * (own p _ * (ownK _ (delF f.name L ++ [f]) * F)) by ac_rfl)).right⟩
end Go.Proofs.YtlfmkiclaijokaaGreatDoor

namespace Go.Proofs.YtlfmkiclaijokaaGreatDoor
open Go.RowKit
set_option linter.unusedVariables false

def barsM (d : DiskP) (n o : Bs) (must : Bool) : Int := if barsD d [n, o] ≠ 0 then barsD d [n, o] else if must && !hasN d.files n then 5 else 0

theorem barsD_twice (d : DiskP) (n : Bs) : barsD d [n, n] = barsD d [n] := by
  unfold barsD
  simp

abbrev keptO (f : FileP) : Obj := .cells #[.string (str f.name), .string (str f.dry), .string (str f.wet), .bool f.born] 134

section
variable (u w : World) (F : HProp) (p : Nat) (d : DiskP) (n o : Bs) (must : Bool)

set_option maxHeartbeats 4000000 in
theorem rbars_any (hl : n.length ≤ 1000000000) (hlo : o.length ≤ 1000000000) (hs : Sat u w (isM p d * F)) :
    Calls Tryz.prog 103 #[.pointer (some ⟨p, 0, none⟩), .string (str n), .string (str o), .bool must] w fun e w' => e = .returned (.int .i64 (barsM d n o must)) ∧ Sat u w' (isM p d * F) := by
  have hM : barsM d n o must = if d.off then 40 else if badName n || badName o then 2 else if must && !hasN d.files n then 5 else 0 := by
    unfold barsM barsD
    cases d.off <;> cases h1 : badName n <;> cases h2 : badName o <;> simp [h1, h2]
  generalize barsM d n o must = R at hM ⊢
  have HM := Lib.hid hM
  clear hM
  go_enter Tryz.func103, Tryz.ntmps103
  go_wp2_with fail
  refine (rlook_any u w F p d n hs).mono ?_
  rintro e w1 ⟨rfl, h1⟩
  dsimp only [keptV]
  clear hs
  go_upto_region 2 with fail
  have h2 := (h1.alloc (keptO (fileOf d n))).right
  simp only [keptO] at h2
  generalize w1.alloc (.cells #[.string (str (fileOf d n).name), .string (str (fileOf d n).dry), .string (str (fileOf d n).wet), .bool (fileOf d n).born] 134) = w2 at h2 ⊢
  clear h1
  obtain ⟨ok, v, L, hL, h3⟩ := isM_iff.1 h2
  have c4 := h3.cell 4
  rcases hO : d.off with _ | _
  rotate_left
  · rw [hO] at c4
    have E := Lib.hid (show R = 40 by rw [HM.out, hO]; rfl)
    clear ok hL hO
    go_wp2_with fail
    go_ret
    exact ⟨by rw [E.out]; rfl, h2⟩
  rw [hO] at c4
  have HO := Lib.hid hO
  clear ok hL hO
  go_wp2_with fail
  refine (rnone_any u w2 F n (by omega)).mono ?_
  rintro e w3 ⟨rfl, rfl⟩
  dsimp only
  rcases h1 : badName n with _ | _
  rotate_left
  · have E := Lib.hid (show R = 2 by rw [HM.out, HO.out, h1]; rfl)
    clear h1 c4
    go_wp2_with fail
    go_ret
    exact ⟨by rw [E.out]; rfl, h2⟩
  have H1 := Lib.hid h1
  clear h1 c4
  go_wp2_with fail
  refine (rnone_any u w2 F o (by omega)).mono ?_
  rintro e w3 ⟨rfl, rfl⟩
  dsimp only
  rcases h1 : badName o with _ | _
  rotate_left
  · have E := Lib.hid (show R = 2 by rw [HM.out, HO.out, H1.out, h1]; rfl)
    clear h1
    go_wp2_with fail
    go_ret
    exact ⟨by rw [E.out]; rfl, h2⟩
  have E := Lib.hid (show R = if must && !hasN d.files n then 5 else 0 by rw [HM.out, HO.out, H1.out, h1]; rfl)
  clear h1
  rcases must with _ | _
  · go_wp2_with fail
    go_ret
    exact ⟨by rw [E.out]; rfl, h2⟩
  rcases h1 : hasN d.files n with _ | _
  · have E2 := Lib.hid (show R = 5 by rw [E.out, h1]; rfl)
    clear h1
    go_wp2_with fail
    go_ret
    exact ⟨by rw [E2.out]; rfl, h2⟩
  · have E2 := Lib.hid (show R = 0 by rw [E.out, h1]; rfl)
    clear h1
    go_wp2_with fail
    go_ret
    exact ⟨by rw [E2.out]; rfl, h2⟩

set_option maxHeartbeats 4000000 in
theorem rsize_any (hs : Sat u w (isM p d * F)) :
    Calls Tryz.prog 104 #[.pointer (some ⟨p, 0, none⟩), .string (str n)] w fun e w' => e = .returned (.int .i64 ((fileOf d n).size : Nat)) ∧ (fileOf d n).size ≤ 8388608 ∧ Sat u w' (isM p d * F) := by
  have hsz : (fileOf d n).size ≤ 8388608 := by
    unfold fileOf
    rcases h : getF d.files n with _ | f
    · simp [FileP.size]
    · exact (isM_iff.1 hs).1.1.size f (getF_name h).2
  have hds : (fileOf d n).dry.length + (fileOf d n).wet.length = (fileOf d n).size := rfl
  have HS := Lib.hid hsz
  have HD := Lib.hid hds
  go_enter Tryz.func104, Tryz.ntmps104
  go_wp2_with fail
  refine (rlook_any u w F p d n hs).mono ?_
  rintro e w1 ⟨rfl, h1⟩
  dsimp only [keptV]
  clear hs
  generalize hf : fileOf d n = f at hsz hds ⊢
  have HF := Lib.hid hf
  clear hf
  go_upto_region 2 with fail
  have h2 := h1.alloc (keptO f)
  simp only [keptO] at h2
  generalize hq : w1.heap.size = q at h2 ⊢
  generalize w1.alloc (.cells #[.string (str f.name), .string (str f.dry), .string (str f.wet), .bool f.born] 134) = w2 at h2 ⊢
  clear h1 hq
  have c1 := h2.cell 1
  have c2 := h2.cell 2
  have e1 : (str f.dry).size = f.dry.length := str_size _
  have e2 : (str f.wet).size = f.wet.length := str_size _
  generalize hs1 : str f.dry = s1 at c1 e1 ⊢
  generalize hs2 : str f.wet = s2 at c2 e2 ⊢
  have E := Lib.hid (show (fileOf d n).size = s1.size + s2.size by rw [HF.out, ← hds, e1, e2])
  have hb : s1.size + s2.size ≤ 8388608 := by omega
  clear hds hs1 hs2 e1 e2 hsz
  go_wp2_with fail
  go_ret
  refine ⟨?_, HS.out, h2.right⟩
  rw [E.out]
  go_num

theorem used_take_kept (L : List FileP) (k : Nat) (f : FileP) (h : L[k]? = some f) : usedF (L.take (k + 1)) = usedF (L.take k) + f.dry.length + f.wet.length := by
  have := used_take L k f h
  unfold FileP.size at this
  omega

set_option maxHeartbeats 4000000 in
theorem rused_any (hs : Sat u w (isM p d * F)) :
    Calls Tryz.prog 102 #[.pointer (some ⟨p, 0, none⟩)] w fun e w' => e = .returned (.int .i64 (usedF d.files)) ∧ Sat u w' (isM p d * F) := by
  obtain ⟨ok, v, L, hL, h2⟩ := isM_iff.1 hs
  obtain ⟨a, c, rfl, hc1, hc2⟩ := h2.right.row_at.len
  have hlb : L.length ≤ 1000000 := by rw [hL.length_eq]; exact ok.1.many
  have hus := ok.1.used
  have hq1 := ok.1.quota1
  have hup := used_perm hL
  have HUB := Lib.hid (show usedF L ≤ 9223372036854775807 by omega)
  have OK := Lib.hid ok
  have HL := Lib.hid hL
  have HUP := Lib.hid hup
  have c0 := h2.cell 0
  clear hs ok hL hus hq1 hup
  go_enter Tryz.func102, Tryz.ntmps102
  go_wp2_with fail
  clear c0
  go_loopw [3, 4] (fun t3 t4 wr => ∃ k : Nat, k ≤ L.length ∧ t4 = .int .i64 k ∧ t3 = .int .i64 (usedF (L.take k) : Nat) ∧ Sat u wr (own p (headR (.slice a L.length c) d) * (ownK (.slice a L.length c) L * F))) (fun _ t _ => L.length - (intOf t).toNat)
  case atStart => exact ⟨0, Nat.zero_le _, rfl, rfl, h2⟩
  case round =>
    clear h2
    obtain ⟨k, hk, rfl, rfl, h4⟩ := hrel
    have c0 := h4.cell 0
    by_cases hlt : k < L.length
    · obtain ⟨x, hx⟩ : ∃ x, L[k]? = some x := ⟨L[k]'(by omega), List.getElem?_eq_getElem _⟩
      obtain ⟨g, rfl, hcells⟩ := Sat.kept h4.s2 hx
      obtain ⟨d0, d1, d2, d3⟩ := hcells wr h4.s2
      have hut := used_take_kept L k x hx
      have hle := used_take_le L (k + 1)
      have hub := HUB.out
      have y1 : (k : Int) < L.length := by omega
      have e1 : (str x.dry).size = x.dry.length := str_size _
      have e2 : (str x.wet).size = x.wet.length := str_size _
      generalize hs1 : str x.dry = s1 at d1 e1
      generalize hs2 : str x.wet = s2 at d2 e2
      rw [← e1, ← e2] at hut
      have HUT := Lib.hid hut
      have HSS := Lib.hid (And.intro hs1 hs2)
      have hbound : usedF (L.take k) + s1.size + s2.size ≤ 9223372036854775807 := by omega
      clear hx hut hle hub e1 e2 hcells hs1 hs2
      generalize usedF (L.take k) = U at HUT hbound ⊢
      go_upto_region 5 with fail
      refine wp_region_seq [(0, true), (1, true), (2, true), (3, true), (4, true), (5, true), (6, true), (7, true), (8, true), (9, true), (10, true), (11, true), (12, true), (13, true), (14, true), (15, true), (16, true), (17, true), (18, true), (19, true), (20, true), (21, true)] (fun wS => Sat u wS (own p (headR (.slice (some ⟨g, 0, none⟩) L.length c) d) * (ownK (.slice (some ⟨g, 0, none⟩) L.length c) L * F)) ∧ wS.cell? ⟨g, k * 4 + 1, none⟩ = some (.string s1) ∧ wS.cell? ⟨g, k * 4 + 2, none⟩ = some (.string s2)) (by kernel_rfl) (by kernel_rfl) (fun _ _ _ _ _ h => h) ?_
      simp only [pickOps, Array.getD_eq_getD_getElem?, List.getElem?_toArray, List.getElem?_cons_succ, List.getElem?_cons_zero, Option.getD_some]
      repeat (first
        | (refine wpSeq_run (by rfl) ⟨h4.drew, d1, d2⟩ (fun K hK => ⟨?_, ?_, ?_⟩); rotate_left; (· (intro wS hSw; have q0 := hSw.1.cell 0; have q1 := hSw.2.1; have q2 := hSw.2.2; go_simp <;> with_reducible rfl)); simp only [Act.put, List.setIfInBounds_toArray, List.set_cons_zero, List.set_cons_succ]; refine hK _ ?_; clear hK K)
        | (refine wpSeq_skip (by rfl) ⟨h4.drew, d1, d2⟩ (fun K hK => ?_); simp only [Act.put, List.setIfInBounds_toArray, List.set_cons_zero, List.set_cons_succ]; refine hK _ ?_; clear hK K))
      refine wpSeq_end ?_
      have h5 := h4.drew
      generalize wr.drew = w3 at h5 ⊢
      clear h4 c0 d0 d1 d2 d3
      go_wp2_with fail
      go_roundw
      case rel => exact ⟨k + 1, by omega, by go_num, by rw [HUT.out, IntWalk.i64_in _ (by omega : -9223372036854775808 ≤ (U : Int) + (s1.size : Int) ∧ (U : Int) + (s1.size : Int) ≤ 9223372036854775807), IntWalk.i64_in _ (by omega)]; rfl, h5⟩
      case measure => simp [intOf]; omega
    · have e : k = L.length := by omega
      subst e
      rw [List.take_length]
      go_wp2_with fail
      go_ret
      exact ⟨by rw [← HUP.out]; rfl, isM_iff.2 ⟨OK.out, _, L, HL.out, h4⟩⟩
end
end Go.Proofs.YtlfmkiclaijokaaGreatDoor
