/- The search among a disk's files. What bars a disk's call. -/
import Derived.Test.YtlfmkiclaijokaaGreatDoorMk9
import Derived.Test.YtlfmkiclaijokaaGreatDoorMk8
namespace Go.Proofs.YtlfmkiclaijokaaGreatDoor
open Go.RowKit
set_option linter.unusedVariables false

theorem cellsL_get : ∀ (L : List FileV) (h j : Nat) (x : FileV), L[h]? = some x → j < 4 → (cellsL L)[h * 4 + j]? = (cellsV x)[j]?
  | [], h, _, _, hx, _ => by simp at hx
  | y :: L, 0, j, x, hx, hj => by
    cases hx
    show (cellsV y ++ cellsL L)[0 * 4 + j]? = _
    rw [List.getElem?_append_left (by show _ < 4; omega)]
    congr 1
    omega
  | y :: L, h + 1, j, x, hx, hj => by
    show (cellsV y ++ cellsL L)[(h + 1) * 4 + j]? = _
    have e : (h + 1) * 4 + j = (cellsV y).length + (h * 4 + j) := by show _ = 4 + (h * 4 + j); omega
    rw [e, List.getElem?_append_right (by omega), Nat.add_sub_cancel_left]
    exact cellsL_get L h j x hx hj

theorem cellsL_length : ∀ L : List FileV, (cellsL L).length = L.length * 4
  | [] => rfl
  | x :: L => by
    show (cellsV x ++ cellsL L).length = _
    rw [List.length_append, cellsL_length L, List.length_cons]
    show 4 + _ = _
    omega

/-- A row of files lies in a block. -/
theorem files_block {u w : World} {F : HProp} {v : Value} {L : List FileV} (h : Sat u w (ownRow 75 4 v L.length (cellsL L) * F)) (hl : 0 < L.length) :
    ∃ g cap cur, v = .slice (some ⟨g, 0, none⟩) L.length cap ∧ L.length ≤ cap ∧ cap ≤ maxLen ∧ cur.size = cap * 4 ∧ cur.toList.take (L.length * 4) = cellsL L ∧ Sat u w (own g (.cells cur 75 (0, 0)) * F) := by
  rcases Sat.row_iff.1 h with ⟨_, h0, _, _⟩ | ⟨g, cap, cur, hv, a1, a2, a3, a4, a5, h1⟩
  · omega
  · exact ⟨g, cap, cur, hv, a1, a2, a3, a4, h1⟩

theorem files_cell {u w : World} {F : HProp} {g : Nat} {cur : Array Value} {L : List FileV} (h : Sat u w (own g (.cells cur 75 (0, 0)) * F)) (hc : cur.toList.take (L.length * 4) = cellsL L)
    {k : Nat} {x : FileV} (hx : L[k]? = some x) (j : Nat) (hj : j < 4) : w.cell? ⟨g, k * 4 + j, none⟩ = (cellsV x)[j]? := by
  have hk : k < L.length := (List.getElem?_eq_some_iff.1 hx).1
  rw [h.cell, ← cellsL_get L k j x hx hj, ← hc, List.getElem?_take, if_pos (by omega), Array.getElem?_toList]

theorem find1_any (u w : World) (F : HProp) (f : FileP) (dv wv : Value) (s : Bs) (hs : Sat u w F) :
    Calls Tryz.prog 90 #[.agg #[.string (str f.name), dv, wv, .bool f.born], .string (str s)] w fun e w' => e = .returned (.int .i64 (Lib.compareBytes f.name s)) ∧ Sat u w' F := by
  have h1 := hs.alloc (.cells #[.string (str f.name), dv, wv, .bool f.born] 75)
  go_enter Tryz.func90, Tryz.ntmps90
  go_wp2_with fail
  refine (scmp_any f.name s _).mono ?_
  rintro e w' ⟨rfl, rfl⟩
  dsimp only
  go_wp2
  go_ret
  exact ⟨rfl, h1.right⟩

theorem posN_eq (fs : List FileP) (s : Bs) (i : Nat) (hi : i ≤ fs.length) (h1 : ∀ (k : Nat) (f : FileP), k < i → fs[k]? = some f → ltN f.name s = true) (h2 : ∀ f, fs[i]? = some f → ltN f.name s = false) : posN fs s = i := by
  induction fs generalizing i with
  | nil => simp at hi; subst hi; rfl
  | cons g fs ih =>
    rw [posN_cons]
    cases i with
    | zero =>
      rw [if_neg]
      rw [h2 g rfl]
      decide
    | succ i =>
      rw [if_pos (h1 0 g (by omega) rfl)]
      rw [ih i (by simpa using hi) (fun k f hk hf => h1 (k + 1) f (by omega) hf) (fun f hf => h2 f hf)]

theorem hasN_at (fs : List FileP) (hs : SortedF fs) (s : Bs) : hasN fs s = (match fs[posN fs s]? with | none => false | some f => f.name == s) := by
  unfold hasN
  rw [get_at fs hs s]
  rcases fs[posN fs s]? with _ | f
  · rfl
  · rw [Option.bind_some]
    by_cases e : f.name = s
    · simp [e]
    · simp [e]

theorem sorted_lt (fs : List FileP) (hs : SortedF fs) {i j : Nat} {f g : FileP} (hij : i < j) (hf : fs[i]? = some f) (hg : fs[j]? = some g) : ltN f.name g.name = true := by
  obtain ⟨hi, rfl⟩ := List.getElem?_eq_some_iff.1 hf
  obtain ⟨hj, rfl⟩ := List.getElem?_eq_some_iff.1 hg
  exact List.pairwise_iff_getElem.1 hs i j hi hj hij

set_option maxHeartbeats 2000000 in
theorem bsearch_any (u w : World) (F : HProp) (v : Value) (fs : List FileP) (s : Bs) (hso : SortedF fs) (hn : fs.length ≤ 1000000) (hs : Sat u w (isFiles v fs * F)) :
    Calls Tryz.prog 89 #[v, .string (str s), .func (.func 90) #[] #[]] w
      fun e w' => e = .returned (.tuple #[.int .i64 (posN fs s), .bool (hasN fs s)]) ∧ Sat u w' (isFiles v fs * F) := by
  obtain ⟨L, hL, h1⟩ := isFiles_iff.1 hs
  have hlen : L.length = fs.length := by rw [← hL, List.length_map]
  obtain ⟨a, c, rfl, hc1, hc2⟩ := h1.row_at.len
  have hLE := Lib.hid hlen
  have hL' := Lib.hid hL
  have hlb : L.length ≤ 1000000 := by omega
  clear hs hlen hL
  go_enter Tryz.func89, Tryz.ntmps89
  go_wp2_with fail
  go_loopw [9, 10] (fun t9 t10 wr => ∃ i j : Nat, i ≤ j ∧ j ≤ L.length ∧ t9 = .int .i64 i ∧ t10 = .int .i64 j ∧ (∀ (k : Nat) (f : FileP), k < i → fs[k]? = some f → ltN f.name s = true) ∧ (∀ (k : Nat) (f : FileP), j ≤ k → fs[k]? = some f → ltN f.name s = false) ∧
    Sat u wr (ownRow 75 4 (.slice a L.length c) L.length (cellsL L) * (roL L * F))) (fun t9 t10 _ => (intOf t10 - intOf t9).toNat)
  case atStart => exact ⟨0, L.length, Nat.zero_le _, Nat.le_refl _, rfl, rfl, fun k f hk => absurd hk (by omega), fun k f hk hf => by have := (List.getElem?_eq_some_iff.1 hf).1; have := hLE.out; omega, h1⟩
  case round =>
    clear h1
    obtain ⟨i, j, hij, hj, rfl, rfl, hlo, hhi, h2⟩ := hrel
    have HLO := Lib.hid hlo
    have HHI := Lib.hid hhi
    clear hlo hhi
    by_cases hlt : i < j
    · obtain ⟨m, hm, hm1, hm2⟩ : ∃ m : Nat, (i + j) / 2 = m ∧ i ≤ m ∧ m < j := ⟨_, rfl, by omega, by omega⟩
      have hmi : ((i : Int) + (j : Int)) / 2 = (m : Int) := by omega
      clear hm
      obtain ⟨x, hx⟩ : ∃ x, L[m]? = some x := ⟨L[m]'(by omega), List.getElem?_eq_getElem _⟩
      obtain ⟨g, cap, cur, hv, _, _, _, q4, h3⟩ := files_block h2 (by omega)
      cases hv
      have c0 := files_cell h3 q4 hx 0 (by decide)
      have c1 := files_cell h3 q4 hx 1 (by decide)
      have c2 := files_cell h3 q4 hx 2 (by decide)
      have c3 := files_cell h3 q4 hx 3 (by decide)
      have d0 : wr.cell? ⟨g, m * 4, none⟩ = some (.string (str x.1.name)) := c0
      have d1 : wr.cell? ⟨g, m * 4 + 1, none⟩ = some x.2.1 := c1
      have d2 : wr.cell? ⟨g, m * 4 + 2, none⟩ = some x.2.2 := c2
      have d3 : wr.cell? ⟨g, m * 4 + 3, none⟩ = some (.bool x.1.born) := c3
      clear c0 c1 c2 c3
      have y1 : (m : Int) < L.length := by omega
      have HX := Lib.hid hx
      have Q4 := Lib.hid q4
      clear hx q4
      go_wp2_with fail
      refine (find1_any u wr _ x.1 x.2.1 x.2.2 s h2).mono ?_
      rintro e w1 ⟨rfl, h4⟩
      dsimp only
      clear d0 d1 d2 d3 h2 h3
      have hfx : fs[m]? = some x.1 := by rw [← hL'.out, List.getElem?_map, HX.out]; rfl
      have hcl := cmp_lt x.1.name s
      cases hb : ltN x.1.name s with
      | true =>
        rw [hb] at hcl
        have hnew : ∀ (k : Nat) (f : FileP), k < m + 1 → fs[k]? = some f → ltN f.name s = true := by
          intro k f hk hf
          by_cases e : k = m
          · subst e
            rw [hfx] at hf
            cases hf
            exact hb
          · exact ltN_trans _ _ _ (sorted_lt fs hso (show k < m by omega) hf hfx) hb
        have HNEW := Lib.hid hnew
        clear hnew hfx hb
        go_wp2_with fail
        go_roundw
        case rel => exact ⟨m + 1, j, by omega, hj, by go_num, rfl, HNEW.out, HHI.out, h4⟩
        case measure => simp [intOf]; omega
      | false =>
        rw [hb] at hcl
        have hnew : ∀ (k : Nat) (f : FileP), m ≤ k → fs[k]? = some f → ltN f.name s = false := by
          intro k f hk hf
          by_cases e : k = m
          · subst e
            rw [hfx] at hf
            cases hf
            exact hb
          · rcases hc : ltN f.name s with _ | _
            · rfl
            · have := ltN_trans _ _ _ (sorted_lt fs hso (show m < k by omega) hfx hf) hc
              rw [hb] at this
              cases this
        have HNEW := Lib.hid hnew
        clear hnew hfx hb
        go_wp2_with fail
        go_roundw
        case rel => exact ⟨i, m, hm1, by omega, rfl, rfl, HLO.out, HNEW.out, h4⟩
        case measure => simp [intOf]; omega
    · have e : i = j := by omega
      subst e
      have hpos : posN fs s = i := posN_eq fs s i (by rw [← hLE.out]; exact hj) HLO.out (fun f hf => HHI.out i f (Nat.le_refl _) hf)
      have hhas := hasN_at fs hso s
      rw [hpos] at hhas
      by_cases hin : i < L.length
      · obtain ⟨x, hx⟩ : ∃ x, L[i]? = some x := ⟨L[i]'(by omega), List.getElem?_eq_getElem _⟩
        have hfx : fs[i]? = some x.1 := by rw [← hL'.out, List.getElem?_map, hx]; rfl
        rw [hfx] at hhas
        dsimp only at hhas
        have HPOS := Lib.hid hpos
        have HHAS := Lib.hid hhas
        obtain ⟨g, cap, cur, hv, _, _, _, q4, h3⟩ := files_block h2 (by omega)
        cases hv
        have c0 := files_cell h3 q4 hx 0 (by decide)
        have c1 := files_cell h3 q4 hx 1 (by decide)
        have c2 := files_cell h3 q4 hx 2 (by decide)
        have c3 := files_cell h3 q4 hx 3 (by decide)
        have d0 : wr.cell? ⟨g, i * 4, none⟩ = some (.string (str x.1.name)) := c0
        have d1 : wr.cell? ⟨g, i * 4 + 1, none⟩ = some x.2.1 := c1
        have d2 : wr.cell? ⟨g, i * 4 + 2, none⟩ = some x.2.2 := c2
        have d3 : wr.cell? ⟨g, i * 4 + 3, none⟩ = some (.bool x.1.born) := c3
        have y1 : (i : Int) < L.length := by omega
        have hcl := cmp_eq0 x.1.name s
        have HCL := Lib.hid hcl
        clear c0 c1 c2 c3 hx hfx q4 hpos hhas hcl
        go_wp2_with fail
        refine (find1_any u wr _ x.1 x.2.1 x.2.2 s h2).mono ?_
        rintro e w1 ⟨rfl, h4⟩
        dsimp only
        clear d0 d1 d2 d3 h2 h3
        go_wp2_with fail
        go_ret2
        refine ⟨?_, isFiles_iff.2 ⟨L, hL'.out, h4⟩⟩
        rw [HPOS.out, HHAS.out, ← HCL.out]
        rfl
      · have hnone : fs[i]? = none := List.getElem?_eq_none (by rw [← hLE.out]; omega)
        rw [hnone] at hhas
        dsimp only at hhas
        have HPOS := Lib.hid hpos
        have HHAS := Lib.hid hhas
        have y1 : ¬ ((i : Int) < L.length) := by omega
        clear hnone hpos hhas
        go_wp2_with fail
        go_ret2
        exact ⟨by rw [HPOS.out, HHAS.out]; rfl, isFiles_iff.2 ⟨L, hL'.out, h2⟩⟩

theorem find_any (u w : World) (F : HProp) (p : Nat) (d : DiskP) (s : Bs) (hs : Sat u w (isD p d * F)) :
    Calls Tryz.prog 48 #[.pointer (some ⟨p, 0, none⟩), .string (str s)] w
      fun e w' => e = .returned (.tuple #[.int .i64 (posN d.files s), .bool (hasN d.files s)]) ∧ Sat u w' (isD p d * F) := by
  obtain ⟨ok, v, h2⟩ := isD_iff.1 hs
  have c0 : w.cell? ⟨p, 0, none⟩ = some v := h2.cell 0
  have OK := Lib.hid ok
  clear hs ok
  go_enter Tryz.func48, Tryz.ntmps48
  go_wp2_with fail
  refine (bsearch_any u w _ v d.files s OK.out.sorted OK.out.many h2.sw.as).mono ?_
  rintro e w1 ⟨rfl, h3⟩
  dsimp only
  clear c0
  go_wp2_with fail
  go_ret2
  exact ⟨rfl, isD_iff.2 ⟨OK.out, v, h3.eq (by ac_rfl)⟩⟩
end Go.Proofs.YtlfmkiclaijokaaGreatDoor

namespace Go.Proofs.YtlfmkiclaijokaaGreatDoor
open Go.RowKit
set_option linter.unusedVariables false

theorem bars1_any (w : World) (s : Bs) (hl : s.length ≤ 1000000000) :
    Calls Tryz.prog 88 #[.string (str s)] w fun e w' => e = .returned (.bool (badName s)) ∧ w = w' := by
  have hsz : (str s).size = s.length := rfl
  have hst : (str s).toList = s := str_toList s
  by_cases h0 : s = []
  · subst h0
    have hb : badName [] = true := rfl
    rw [hb]
    go_enter Tryz.func88, Tryz.ntmps88
    go_wp2
    go_ret
    exact ⟨rfl, rfl⟩
  · have e0 : (s == []) = false := by simpa using h0
    have e00 : s.isEmpty = false := by cases s with | nil => exact absurd rfl h0 | cons _ _ => rfl
    by_cases h1 : 128 < s.length
    · have hb : badName s = true := by unfold badName; simp [h1]
      have d1 : decide (128 < (s.length : Int)) = true := by simp; omega
      rw [hb]
      clear hb h0
      go_enter Tryz.func88, Tryz.ntmps88
      go_wp2
      go_ret
      exact ⟨rfl, rfl⟩
    · have hb : badName s = false := by unfold badName; rw [e00]; simp; omega
      have d1 : decide (128 < (s.length : Int)) = false := by simp; omega
      rw [hb]
      clear hb h0
      go_enter Tryz.func88, Tryz.ntmps88
      go_wp2
      go_ret
      exact ⟨rfl, rfl⟩

/-- A row of texts. -/
def TextsAt (w : World) (v : Value) (ns : List Bs) : Prop := RowAt w v ns.length (ns.map fun s => Value.string (str s)) ∧ ∀ s ∈ ns, s.length ≤ 1000000000

def GotIdx (w : World) (ns : List Bs) (e : Ending) (w' : World) : Prop := ∃ r : Int, e = .returned (.int .i64 r) ∧ decide (0 ≤ r) = ns.any badName ∧ w = w'

set_option maxHeartbeats 1000000 in
theorem idxFunc_any (w : World) (v : Value) (ns : List Bs) (h : TextsAt w v ns) :
    Calls Tryz.prog 119 #[v, .func (.func 88) #[] #[]] w (GotIdx w ns) := by
  obtain ⟨hr, hs⟩ := h
  obtain ⟨a, c, rfl, hc1, hc2⟩ := hr.len
  have HS := Lib.hid hs
  have HR := Lib.hid hr
  have hm : ns.length ≤ 9223372036854775807 := Nat.le_trans hc1 hc2
  clear hs hr
  go_enter Tryz.func119, Tryz.ntmps119
  go_wp2_with fail
  go_loopw [8] (fun t wr => ∃ k : Nat, k ≤ ns.length ∧ t = .int .i64 k ∧ (∀ s ∈ ns.take k, badName s = false) ∧ w = wr) (fun t _ => ns.length - (intOf t).toNat)
  case atStart => exact ⟨0, Nat.zero_le _, rfl, fun s hs => by simp at hs, rfl⟩
  case round =>
    obtain ⟨k, hk, rfl, hall, rfl⟩ := hrel
    have HALL := Lib.hid hall
    clear hall
    by_cases hlt : k < ns.length
    · rcases HR.out with ⟨_, h0, _⟩ | ⟨a', c', hv, _, _, hcell⟩
      · omega
      cases hv
      have c0 := hcell k (.string (str ns[k])) (by simp [hlt])
      have hsl := HS.out ns[k] (List.getElem_mem hlt)
      have htk : ns.take (k + 1) = ns.take k ++ [ns[k]] := List.take_succ_eq_append_getElem hlt
      have hmem : ns[k] ∈ ns := List.getElem_mem hlt
      have HT := Lib.hid htk
      have HM := Lib.hid hmem
      clear hcell htk hmem
      generalize ns[k] = s at c0 hsl HT HM
      go_wp2_with fail
      refine (bars1_any w s hsl).mono ?_
      rintro e w1 ⟨rfl, rfl⟩
      dsimp only
      cases hb : badName s with
      | true =>
        have HB := Lib.hid hb
        clear hb
        go_wp2_with fail
        go_ret
        refine ⟨k, rfl, ?_, rfl⟩
        rw [List.any_eq_true.2 ⟨s, HM.out, HB.out⟩]
        simp
      | false =>
        have HB := Lib.hid hb
        clear hb
        go_wp2_with fail
        go_roundw
        case rel =>
          refine ⟨k + 1, by omega, by go_num, fun x hx => ?_, trivial⟩
          rw [HT.out] at hx
          rcases List.mem_append.1 hx with hx | hx
          · exact HALL.out x hx
          · rw [List.mem_singleton.1 hx]; exact HB.out
        case measure => simp [intOf]; omega
    · have e : k = ns.length := by omega
      subst e
      rw [List.take_length] at HALL
      go_wp2_with fail
      go_ret
      refine ⟨-1, rfl, ?_, rfl⟩
      have : ns.any badName = false := by
        rw [List.any_eq_false]
        intro x hx
        rw [HALL.out x hx]
        decide
      rw [this]
      rfl

theorem contains_any (w : World) (v : Value) (ns : List Bs) (h : TextsAt w v ns) :
    Calls Tryz.prog 87 #[v, .func (.func 88) #[] #[]] w fun e w' => e = .returned (.bool (ns.any badName)) ∧ w = w' := by
  go_enter Tryz.func87, Tryz.ntmps87
  go_wp2_with fail
  refine (idxFunc_any w v ns h).mono ?_
  rintro e w1 ⟨r, rfl, hr, rfl⟩
  dsimp only
  have HR := Lib.hid hr
  clear hr
  go_wp2
  go_ret
  exact ⟨by rw [← HR.out]; rfl, rfl⟩

theorem bars_any (u w : World) (F : HProp) (p : Nat) (d : DiskP) (v : Value) (ns : List Bs) (hs : Sat u w (isD p d * F)) (h : TextsAt w v ns) :
    Calls Tryz.prog 47 #[.pointer (some ⟨p, 0, none⟩), v] w fun e w' => e = .returned (.int .i64 (barsD d ns)) ∧ w = w' := by
  obtain ⟨ok, v0, h2⟩ := isD_iff.1 hs
  have c4 : w.cell? ⟨p, 4, none⟩ = some (.bool d.off) := h2.cell 4
  have H := Lib.hid h
  clear hs ok h2 h
  unfold barsD
  cases ho : d.off with
  | true =>
    rw [ho] at c4
    rw [if_pos rfl]
    clear ho
    go_enter Tryz.func47, Tryz.ntmps47
    go_wp2
    go_ret
    exact ⟨rfl, rfl⟩
  | false =>
    rw [ho] at c4
    rw [if_neg (by decide)]
    clear ho
    have hcon := contains_any w v ns H.out
    cases hb : ns.any badName with
    | true =>
      rw [hb] at hcon
      rw [if_pos rfl]
      have HC := Lib.hid hcon
      clear hb hcon
      go_enter Tryz.func47, Tryz.ntmps47
      go_wp2_with fail
      refine HC.out.mono ?_
      rintro e w1 ⟨rfl, rfl⟩
      dsimp only
      go_wp2
      go_ret
      exact ⟨rfl, rfl⟩
    | false =>
      rw [hb] at hcon
      rw [if_neg (by decide)]
      have HC := Lib.hid hcon
      clear hb hcon
      go_enter Tryz.func47, Tryz.ntmps47
      go_wp2_with fail
      refine HC.out.mono ?_
      rintro e w1 ⟨rfl, rfl⟩
      dsimp only
      go_wp2
      go_ret
      exact ⟨rfl, rfl⟩
end Go.Proofs.YtlfmkiclaijokaaGreatDoor
