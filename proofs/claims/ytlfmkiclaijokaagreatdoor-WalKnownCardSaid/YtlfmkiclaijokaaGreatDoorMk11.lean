/- slices.Concat of two rows; a file's bytes; how many a disk has. A file's bytes, and how many they are; how many a disk has. How many bytes a disk has; its names. -/
import Derived.Test.YtlfmkiclaijokaaGreatDoorMk10
import Derived.Test.YtlfmkiclaijokaaGreatDoorMk5
namespace Go.Proofs.YtlfmkiclaijokaaGreatDoor
open Go.RowKit
set_option linter.unusedVariables false

/-- A row of which nothing is told yet. -/
theorem Sat.row_none {u w : World} {F : HProp} {e : TypeId} {a : Option Addr} {n c : Nat} {xs : List Value} (h : Sat u w (ownRow e 1 (.slice a n c) n xs * F)) (ha : a ≠ none) : Sat u w (ownRow e 1 (.slice a 0 c) 0 [] * F) := by
  rcases Sat.row_iff.1 h with ⟨hv, _⟩ | ⟨g, cap, cur, hv, a1, a2, a3, a4, a5, h1⟩
  · cases hv; exact absurd rfl ha
  · cases hv
    exact Sat.row_mk h1 (Nat.zero_le _) a2 a3 (by simp)

set_option maxRecDepth 100000 in
set_option maxHeartbeats 1000000 in
theorem grow_any (u w : World) (F : HProp) (n : Nat) (hn : n ≤ 100000000) (hs : Sat u w F) :
    Calls Tryz.prog 92 #[.slice none 0 0, .int .i64 n] w fun e w' => ∃ a c, e = .returned (.slice a 0 c) ∧ Sat u w' (ownRow 5 1 (.slice a 0 c) 0 [] * F) := by
  obtain ⟨i0, hi, hz0, hz1, hz2⟩ := info_parts info_u8
  by_cases h0 : n = 0
  · subst h0
    have h1 := Sat.row_nil (e := 5) (size := 1) hs
    go_enter Tryz.func92, Tryz.ntmps92
    go_wp2_with fail
    go_ret
    exact ⟨_, _, rfl, h1⟩
  · have d0 : ¬ ((n : Int) < 0) := by omega
    have d1 : (0 : Int) < n := by omega
    have h1 := Sat.row_nil (e := 5) (size := 1) hs
    go_enter Tryz.func92, Tryz.ntmps92
    go_wp2_with (at_builtin; refine wpList_append_zeros rfl _ _ 34 3 rfl i0 (.int .u8 0) .i64 .i64 Tryz.underlying34 Tryz.underlying3 hi hz0 hz1 rfl (by decide) (by intro y hy; simp [Value.cells] at hy; subst hy; rfl) (by omega) n rfl rfl h1 (by rw [hz2]; omega) ?_; intro a3 c3 w3 h2)
    rw [Nat.zero_add] at h2
    have ha : a3 ≠ none := by
      rcases Sat.row_iff.1 h2 with ⟨_, hn0, _⟩ | ⟨g, cap, cur, hv, _⟩
      · omega
      · cases hv; simp
    go_ret
    exact ⟨_, _, rfl, h2.row_none ha⟩

/-- Two rows, as slices.Concat gets them. -/
structure TwoAt (w : World) (g : Nat) (va vb : Value) (xs ys : List UInt8) : Prop where
  c0 : w.cell? ⟨g, 0, none⟩ = some va
  c1 : w.cell? ⟨g, 1, none⟩ = some vb
  fst : BytesAt w va xs
  snd : BytesAt w vb ys

set_option maxRecDepth 100000 in
set_option maxHeartbeats 4000000 in
theorem concat_any (u w : World) (F : HProp) (g : Nat) (va vb : Value) (xs ys : List UInt8) (hx : xs.length ≤ 40000000) (hy : ys.length ≤ 40000000) (hs : Sat u w F) (hk : ∀ w', Sat u w' F → TwoAt w' g va vb xs ys) :
    Calls Tryz.prog 51 #[.slice (some ⟨g, 0, none⟩) 2 2] w fun e w' => ∃ a c, e = .returned (.slice a (xs ++ ys).length c) ∧ Sat u w' (ownB (.slice a (xs ++ ys).length c) (xs ++ ys) * F) := by
  obtain ⟨i0, hi, hz0, hz1, hz2⟩ := info_parts info_u8
  obtain ⟨_, _, hfa, hfb⟩ := hk w hs
  obtain ⟨aa, ca, rfl, la1, la2⟩ := RowAt.len hfa
  obtain ⟨ab, cb, rfl, lb1, lb2⟩ := RowAt.len hfb
  have HK := Lib.hid hk
  obtain ⟨n, hn⟩ : ∃ n, xs.length + ys.length = n := ⟨_, rfl⟩
  have HN := Lib.hid hn
  have hnb : n ≤ 80000000 := by omega
  clear hk hfa hfb hn
  go_enter Tryz.func51, Tryz.ntmps51
  go_wp2_with fail
  go_loopw [3, 11] (fun t3 t11 wr => ∃ k : Nat, k ≤ 2 ∧ t11 = .int .i64 k ∧ t3 = .int .i64 ((if k = 0 then 0 else if k = 1 then xs.length else n : Nat) : Int) ∧ wr = w) (fun _ t _ => 2 - (intOf t).toNat)
  case atStart => exact ⟨0, by omega, rfl, rfl, rfl⟩
  case round =>
    obtain ⟨k, hk2, rfl, rfl, rfl⟩ := hrel
    obtain ⟨e0, e1, _, _⟩ := HK.out _ hs
    have hnum : k = 0 ∨ k = 1 ∨ k = 2 := by omega
    rcases hnum with rfl | rfl | rfl
    · have y1 : ¬ ((xs.length : Int) < 0) := by omega
      go_wp2_with fail
      go_roundw
      case rel => exact ⟨1, by omega, rfl, rfl, trivial⟩
      case measure => simp [intOf]
    · have y1 : ¬ ((xs.length : Int) + (ys.length : Int) < 0) := by omega
      simp only [if_neg (by decide : ¬ (1 = 0)), if_true]
      go_wp2_with fail
      go_roundw
      case rel => exact ⟨2, by omega, rfl, by have := HN.out; show Value.int .i64 _ = Value.int .i64 (n : Int); congr 1; omega, trivial⟩
      case measure => simp [intOf]
    · simp only [if_neg (by decide : ¬ (2 = 0)), if_neg (by decide : ¬ (2 = 1))]
      clear e0 e1
      rw [show ((2 : Nat) : Int) = 2 from rfl]
      go_wp2_with fail
      refine (grow_any u _ F n (by omega) hs).mono ?_
      rintro e w2 ⟨a2, c2, rfl, h1⟩
      dsimp only
      go_wp2_with fail
      go_loopw [6, 27] (fun t6 t27 wr => ∃ k : Nat, k ≤ 2 ∧ t27 = .int .i64 k ∧ ∃ a c zs, zs = (if k = 0 then [] else if k = 1 then xs else xs ++ ys) ∧ t6 = .slice a zs.length c ∧ Sat u wr (ownRow 5 1 (.slice a zs.length c) zs.length (zs.map B) * F)) (fun _ t _ => 2 - (intOf t).toNat)
      case atStart => exact ⟨0, by omega, rfl, a2, c2, [], rfl, rfl, h1⟩
      case round =>
        clear h1
        obtain ⟨k, hk2, rfl, a3, c3, zs, hzs, rfl, h2⟩ := hrel
        obtain ⟨e0, e1, b0, b1⟩ := HK.out _ h2.right
        have hnum : k = 0 ∨ k = 1 ∨ k = 2 := by omega
        rcases hnum with rfl | rfl | rfl
        · have hz : zs = [] := hzs
          subst hz
          clear hzs
          go_wp2_with (at_builtin; refine wpList_append_sl rfl _ _ 34 rfl i0 (.int .u8 0) Tryz.underlying34 hi hz0 hz1 hz2 rfl (by decide) rfl rfl h2 b0 (by simp) (B_one _) (by simp; omega) ?_; intro a4 c4 w4 h3 hx; clear hx)
          go_roundw
          case rel => exact ⟨1, by omega, rfl, a4, c4, xs, rfl, by simp, by simpa using h3⟩
          case measure => simp [intOf]
        · have hz : zs = xs := hzs
          subst hz
          clear hzs
          go_wp2_with (at_builtin; refine wpList_append_sl rfl _ _ 34 rfl i0 (.int .u8 0) Tryz.underlying34 hi hz0 hz1 hz2 rfl (by decide) rfl rfl h2 b1 (by simp) (B_one _) (by omega) ?_; intro a4 c4 w4 h3 hx; clear hx)
          go_roundw
          case rel => exact ⟨2, by omega, rfl, a4, c4, zs ++ ys, rfl, by simp, by rw [List.length_append, List.map_append]; exact h3⟩
          case measure => simp [intOf]
        · have hz : zs = xs ++ ys := hzs
          subst hz
          clear hzs e0 e1 b0 b1
          have H2 := Lib.hid h2
          clear h2
          go_wp2_with fail
          go_ret
          exact ⟨_, _, by simp, H2.out⟩
end Go.Proofs.YtlfmkiclaijokaaGreatDoor

namespace Go.Proofs.YtlfmkiclaijokaaGreatDoor
open Go.RowKit
set_option linter.unusedVariables false

theorem roL_at {u w : World} {F : HProp} : ∀ {L : List FileV} {k : Nat} {x : FileV}, Sat u w (roL L * F) → L[k]? = some x → BytesAt w x.2.1 x.1.dry ∧ BytesAt w x.2.2 x.1.wet
  | [], _, _, _, hx => by simp at hx
  | y :: L, 0, x, h, hx => by
    cases hx
    have h1 : Sat u w (roB y.2.1 y.1.dry * (roB y.2.2 y.1.wet * (roL L * F))) := h.eq (by show (roB y.2.1 y.1.dry * (roB y.2.2 y.1.wet * roL L)) * F = _; ac_rfl)
    exact ⟨h1.roB_at, h1.right.roB_at⟩
  | y :: L, k + 1, x, h, hx => by
    have h1 : Sat u w (roL L * (roB y.2.1 y.1.dry * (roB y.2.2 y.1.wet * F))) := h.eq (by show (roB y.2.1 y.1.dry * (roB y.2.2 y.1.wet * roL L)) * F = _; ac_rfl)
    exact roL_at h1 hx

theorem fsize_any (u w : World) (F : HProp) (nm : ByteArray) (dv wv : Value) (bn : Bool) (dry wet : Bs) (hs : Sat u w F) (hd : BytesAt w dv dry) (hw : BytesAt w wv wet) (h1 : dry.length ≤ 40000000) (h2 : wet.length ≤ 40000000) :
    Calls Tryz.prog 49 #[.agg #[.string nm, dv, wv, .bool bn]] w fun e w' => e = .returned (.int .i64 ((dry.length + wet.length : Nat) : Int)) ∧ Sat u w' F := by
  obtain ⟨a, c, rfl, _, _⟩ := RowAt.len hd
  obtain ⟨a', c', rfl, _, _⟩ := RowAt.len hw
  have h3 := hs.alloc (.cells #[.string nm, .slice a dry.length c, .slice a' wet.length c', .bool bn] 75)
  clear hd hw
  go_enter Tryz.func49, Tryz.ntmps49
  go_wp2
  go_ret
  exact ⟨by simp, h3.right⟩

theorem fall_any (u w : World) (F : HProp) (nm : ByteArray) (dv wv : Value) (bn : Bool) (dry wet : Bs) (hs : Sat u w F) (hk : ∀ w', Sat u w' F → BytesAt w' dv dry ∧ BytesAt w' wv wet) (h1 : dry.length ≤ 40000000) (h2 : wet.length ≤ 40000000) :
    Calls Tryz.prog 63 #[.agg #[.string nm, dv, wv, .bool bn]] w fun e w' => ∃ a c, e = .returned (.slice a (dry ++ wet).length c) ∧ Sat u w' (ownB (.slice a (dry ++ wet).length c) (dry ++ wet) * F) := by
  obtain ⟨a1, c1, rfl, _, _⟩ := RowAt.len (hk w hs).1
  obtain ⟨a2, c2, rfl, _, _⟩ := RowAt.len (hk w hs).2
  have h3 := hs.alloc (.cells #[.string nm, .slice a1 dry.length c1, .slice a2 wet.length c2, .bool bn] 75)
  have h4 := h3.right.alloc (.cells #[.slice a1 dry.length c1, .slice a2 wet.length c2] 34)
  rw [World.size_alloc] at h4
  have HK := Lib.hid hk
  clear hk
  go_enter Tryz.func63, Tryz.ntmps63
  go_wp2_with fail
  refine (concat_any u _ _ (w.heap.size + 1) _ _ dry wet h1 h2 h4 (fun w' h => ⟨h.cell 0, h.cell 1, (HK.out w' h.right).1, (HK.out w' h.right).2⟩)).mono ?_
  rintro e w1 ⟨a, c, rfl, h5⟩
  dsimp only
  clear h3 h4
  go_wp2
  go_ret
  exact ⟨_, _, rfl, h5.s2.right⟩
end Go.Proofs.YtlfmkiclaijokaaGreatDoor

namespace Go.Proofs.YtlfmkiclaijokaaGreatDoor
open Go.RowKit
set_option linter.unusedVariables false

theorem used_take (fs : List FileP) (k : Nat) (f : FileP) (h : fs[k]? = some f) : usedF (fs.take (k + 1)) = usedF (fs.take k) + f.size := by
  obtain ⟨hk, rfl⟩ := List.getElem?_eq_some_iff.1 h
  unfold usedF
  rw [List.take_succ_eq_append_getElem hk, List.map_append, List.sum_append]
  simp

theorem used_take_le (fs : List FileP) (k : Nat) : usedF (fs.take k) ≤ usedF fs := by
  conv => rhs; rw [← List.take_append_drop k fs]
  unfold usedF
  rw [List.map_append, List.sum_append]
  omega

/-- The values of a row of files, one behind the other, as a loop meets them. -/
theorem file_cells {u w : World} {F : HProp} {a : Option Addr} {c : Nat} {L : List FileV} (h : Sat u w (ownRow 75 4 (.slice a L.length c) L.length (cellsL L) * F)) {k : Nat} {x : FileV} (hx : L[k]? = some x) :
    ∃ g, a = some ⟨g, 0, none⟩ ∧ (∀ w', Sat u w' (ownRow 75 4 (.slice a L.length c) L.length (cellsL L) * F) → w'.cell? ⟨g, k * 4, none⟩ = some (.string (str x.1.name)) ∧ w'.cell? ⟨g, k * 4 + 1, none⟩ = some x.2.1 ∧ w'.cell? ⟨g, k * 4 + 2, none⟩ = some x.2.2 ∧ w'.cell? ⟨g, k * 4 + 3, none⟩ = some (.bool x.1.born)) := by
  have hk : k < L.length := (List.getElem?_eq_some_iff.1 hx).1
  obtain ⟨g, cap, cur, hv, _, _, _, q4, h3⟩ := files_block h (by omega)
  cases hv
  refine ⟨g, rfl, fun w' h' => ?_⟩
  obtain ⟨g', cap', cur', hv', _, _, _, q4', h3'⟩ := files_block h' (by omega)
  cases hv'
  exact ⟨files_cell h3' q4' hx 0 (by decide), files_cell h3' q4' hx 1 (by decide), files_cell h3' q4' hx 2 (by decide), files_cell h3' q4' hx 3 (by decide)⟩

set_option maxHeartbeats 2000000 in
theorem used_any (u w : World) (F : HProp) (p : Nat) (d : DiskP) (hs : Sat u w (isD p d * F)) :
    Calls Tryz.prog 50 #[.pointer (some ⟨p, 0, none⟩)] w fun e w' => e = .returned (.int .i64 (usedF d.files)) ∧ Sat u w' (isD p d * F) := by
  obtain ⟨ok, v, h2⟩ := isD_iff.1 hs
  have c0 : w.cell? ⟨p, 0, none⟩ = some v := h2.cell 0
  obtain ⟨L, hL, h3⟩ := isFiles_iff.1 h2.s2
  obtain ⟨a, c, rfl, hc1, hc2⟩ := h3.row_at.len
  have hlen : L.length = d.files.length := by rw [← hL, List.length_map]
  have hlb : L.length ≤ 1000000 := by have := ok.many; omega
  have hus := ok.used
  have hq1 := ok.quota1
  have OK := Lib.hid ok
  have HL := Lib.hid hL
  have HLE := Lib.hid hlen
  have hub : usedF d.files ≤ 9223372036854775807 := by omega
  have HUB := Lib.hid hub
  clear hs h2 ok hL hlen hus hq1 hub
  go_enter Tryz.func50, Tryz.ntmps50
  go_wp2_with fail
  clear c0
  go_loopw [3, 13] (fun t3 t13 wr => ∃ k : Nat, k ≤ L.length ∧ t13 = .int .i64 k ∧ t3 = .int .i64 (usedF (d.files.take k) : Nat) ∧ Sat u wr (ownRow 75 4 (.slice a L.length c) L.length (cellsL L) * (roL L * (own p (headD (.slice a L.length c) d) * F)))) (fun _ t _ => L.length - (intOf t).toNat)
  case atStart => exact ⟨0, Nat.zero_le _, rfl, rfl, h3⟩
  case round =>
    clear h3
    obtain ⟨k, hk, rfl, rfl, h4⟩ := hrel
    by_cases hlt : k < L.length
    · obtain ⟨x, hx⟩ : ∃ x, L[k]? = some x := ⟨L[k]'(by omega), List.getElem?_eq_getElem _⟩
      have hfx : d.files[k]? = some x.1 := by rw [← HL.out, List.getElem?_map, hx]; rfl
      obtain ⟨g, rfl, hcells⟩ := file_cells h4 hx
      obtain ⟨d0, d1, d2, d3⟩ := hcells wr h4
      obtain ⟨b1, b2⟩ := roL_at h4.right hx
      have hsz := OK.out.size x.1 (List.mem_of_getElem? hfx)
      unfold FileP.size at hsz
      have hut := used_take d.files k x.1 hfx
      have hle := used_take_le d.files (k + 1)
      have hub := HUB.out
      have y1 : (k : Int) < L.length := by omega
      have hbound : usedF (d.files.take k) + x.1.size ≤ 9223372036854775807 := by omega
      have HUT := Lib.hid hut
      obtain ⟨aa, ca, hva, _, _⟩ := RowAt.len b1
      obtain ⟨ab, cb, hvb, _, _⟩ := RowAt.len b2
      rw [hva] at d1 b1
      rw [hvb] at d2 b2
      have hdl : x.1.dry.length ≤ 8388608 := by omega
      have hwl : x.1.wet.length ≤ 8388608 := by omega
      clear hcells hfx hsz hut hle hub hva hvb hx
      generalize usedF (d.files.take k) = U at HUT hbound
      go_wp2_with fail
      have h5 := (h4.alloc (.cells #[.string (str x.1.name), .slice aa x.1.dry.length ca, .slice ab x.1.wet.length cb, .bool x.1.born] 75)).right
      refine (fsize_any u _ _ (str x.1.name) _ _ x.1.born x.1.dry x.1.wet h5 (RowAt.alloc b1 _) (RowAt.alloc b2 _) (by omega) (by omega)).mono ?_
      rintro e w2 ⟨rfl, h6⟩
      dsimp only
      have hszd : x.1.size = x.1.dry.length + x.1.wet.length := rfl
      rw [← hszd]
      clear h4 h5 b1 b2 d0 d1 d2 d3 hszd
      generalize x.1.size = Z at HUT hbound ⊢
      have hb2 : (U : Int) + (Z : Int) ≤ 9223372036854775807 := by omega
      go_wp2_with fail
      go_roundw
      case rel => exact ⟨k + 1, by omega, by go_num, by rw [HUT.out]; go_num, h6⟩
      case measure => simp [intOf]; omega
    · have e : k = L.length := by omega
      subst e
      have htk : d.files.take L.length = d.files := List.take_of_length_le (by rw [HLE.out]; exact Nat.le_refl _)
      rw [htk]
      clear htk
      go_wp2_with fail
      go_ret
      exact ⟨rfl, isD_iff.2 ⟨OK.out, _, (isFiles_iff.2 ⟨L, HL.out, h4⟩).s2⟩⟩

theorem info_str : (Tryz.prog.info? 9).map (fun i => (i.zero, i.size, i.bytes)) = some (some (.string ⟨#[]⟩), 1, 16) := by kernel_rfl

/-- A row of texts of our own. -/
def ownS (v : Value) (ns : List Bs) : HProp := ownRow 9 1 v ns.length (ns.map fun s => Value.string (str s))

set_option maxHeartbeats 2000000 in
theorem names_any (u w : World) (F : HProp) (p : Nat) (d : DiskP) (hs : Sat u w (isD p d * F)) :
    Calls Tryz.prog 28 #[.pointer (some ⟨p, 0, none⟩)] w fun e w' => ∃ a c, e = .returned (.slice a d.files.length c) ∧ Sat u w' (ownS (.slice a d.files.length c) (d.files.map FileP.name) * (isD p d * F)) := by
  obtain ⟨i0, hi, hz0, hz1, hz2⟩ := info_parts info_str
  obtain ⟨ok, v, h2⟩ := isD_iff.1 hs
  have c0 : w.cell? ⟨p, 0, none⟩ = some v := h2.cell 0
  obtain ⟨L, hL, h3⟩ := isFiles_iff.1 h2.s2
  obtain ⟨a, c, rfl, hc1, hc2⟩ := h3.row_at.len
  have hlen : L.length = d.files.length := by rw [← hL, List.length_map]
  have hlb : L.length ≤ 1000000 := by have := ok.many; omega
  have OK := Lib.hid ok
  have HL := Lib.hid hL
  have HLE := Lib.hid hlen
  have h30 : Sat u w (ownRow 9 1 (.slice none 0 0) 0 (((d.files.take 0).map FileP.name).map fun s => Value.string (str s)) * (ownRow 75 4 (.slice a L.length c) L.length (cellsL L) * (roL L * (own p (headD (.slice a L.length c) d) * F)))) := Sat.row_nil h3
  clear hs h2 ok hL hlen h3
  go_enter Tryz.func28, Tryz.ntmps28
  go_wp2_with fail
  clear c0
  go_loopw [3, 13] (fun t3 t13 wr => ∃ k : Nat, k ≤ L.length ∧ t13 = .int .i64 k ∧ (∃ a' c', t3 = .slice a' k c') ∧ Sat u wr (ownRow 9 1 t3 k (((d.files.take k).map FileP.name).map fun s => Value.string (str s)) * (ownRow 75 4 (.slice a L.length c) L.length (cellsL L) * (roL L * (own p (headD (.slice a L.length c) d) * F))))) (fun _ t _ => L.length - (intOf t).toNat)
  case atStart => exact ⟨0, Nat.zero_le _, rfl, ⟨none, 0, rfl⟩, h30⟩
  case round =>
    clear h30
    obtain ⟨k, hk, rfl, ⟨a', c', rfl⟩, h4⟩ := hrel
    by_cases hlt : k < L.length
    · obtain ⟨x, hx⟩ : ∃ x, L[k]? = some x := ⟨L[k]'(by omega), List.getElem?_eq_getElem _⟩
      have hfx : d.files[k]? = some x.1 := by rw [← HL.out, List.getElem?_map, hx]; rfl
      obtain ⟨hfl, hfe⟩ := List.getElem?_eq_some_iff.1 hfx
      have htk : ((d.files.take (k + 1)).map FileP.name).map (fun s => Value.string (str s)) = ((d.files.take k).map FileP.name).map (fun s => Value.string (str s)) ++ [.string (str x.1.name)] := by
        rw [List.take_succ_eq_append_getElem hfl, hfe, List.map_append, List.map_append]
        rfl
      have HT := Lib.hid htk
      obtain ⟨g, rfl, hcells⟩ := file_cells h4.right hx
      obtain ⟨d0, d1, d2, d3⟩ := hcells wr h4.right
      obtain ⟨b1, b2⟩ := roL_at h4.right.right hx
      have y1 : (k : Int) < L.length := by omega
      obtain ⟨aa, ca, hva, _, _⟩ := RowAt.len b1
      obtain ⟨ab, cb, hvb, _, _⟩ := RowAt.len b2
      rw [hva] at d1
      rw [hvb] at d2
      clear hcells hfx hva hvb hx b1 b2 htk hfl hfe
      generalize ((d.files.take k).map FileP.name).map (fun s => Value.string (str s)) = T at h4 HT
      have h5 := (h4.alloc (.cells #[.string (str x.1.name), .slice aa x.1.dry.length ca, .slice ab x.1.wet.length cb, .bool x.1.born] 75)).right
      have h6 := h5.alloc (.cells #[.string (str x.1.name)] 9)
      rw [World.size_alloc] at h6
      go_wp2_with (at_builtin; refine wpList_append_sl rfl _ _ 32 rfl i0 (.string ⟨#[]⟩) Tryz.underlying32 hi hz0 hz1 hz2 rfl (by decide) rfl rfl h6.right (x := .slice (some ⟨wr.heap.size + 1, 0, none⟩) 1 1) (m := 1) (news := [.string (str x.1.name)]) (.inr ⟨_, _, rfl, Nat.le_refl _, by decide, fun j y hy => by match j, hy with | 0, hy => cases hy; rw [addr_add]; exact h6.cell 0⟩) rfl (by intro q hq; cases hq with | head => rfl | tail _ hq => cases hq) (by omega) ?_; intro a4 c4 w4 h7 hx; clear hx)
      go_roundw
      case rel => exact ⟨k + 1, by omega, by go_num, ⟨a4, c4, rfl⟩, by rw [HT.out]; exact h7⟩
      case measure => simp [intOf]; omega
    · have e : k = L.length := by omega
      subst e
      have htk : d.files.take L.length = d.files := List.take_of_length_le (by rw [HLE.out]; exact Nat.le_refl _)
      rw [htk] at h4
      clear htk
      go_wp2_with fail
      go_ret
      refine ⟨a', c', by rw [← HLE.out]; rfl, ?_⟩
      have h5 : Sat u wr (ownS (.slice a' L.length c') (d.files.map FileP.name) * (ownRow 75 4 (.slice a L.length c) L.length (cellsL L) * (roL L * (own p (headD (.slice a L.length c) d) * F)))) := by
        unfold ownS
        rw [List.length_map, ← HLE.out]
        exact h4
      have h6 := isFiles_iff.2 ⟨L, HL.out, h5.right⟩
      have h7 : Sat u wr (isFiles (.slice a L.length c) d.files * (ownS (.slice a' L.length c') (d.files.map FileP.name) * (own p (headD (.slice a L.length c) d) * F))) := isFiles_iff.2 ⟨L, HL.out, h5.eq (by ac_rfl)⟩
      rw [← HLE.out]
      have h8 : Sat u wr (isD p d * (ownS (.slice a' L.length c') (d.files.map FileP.name) * F)) := isD_iff.2 ⟨OK.out, _, h7.eq (by ac_rfl)⟩
      exact h8.s2
end Go.Proofs.YtlfmkiclaijokaaGreatDoor
