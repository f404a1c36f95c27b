/- The reference's Sum, by its long division. -/
import Derived.Test.YtlfmkiclaijokaaGreatDoorMk7
import Derived.Test.YtlfmkiclaijokaaGreatDoorMk5
import Derived.Test.YtlfmkiclaijokaaGreatDoorMk17
import Derived.Laws.MakeOwn
namespace Go.Proofs.YtlfmkiclaijokaaGreatDoor
open Go.RowKit
set_option linter.unusedVariables false

theorem not32 (r : BitVec 32) : bits .xor .u32 IntKind.u32.max (r.toNat : Int) = ((~~~ r).toNat : Int) := by
  have e1 : (4294967295#32 : BitVec 32) = BitVec.allOnes 32 := by decide
  have e2 : ~~~ r = 4294967295#32 ^^^ r := by rw [e1, BitVec.allOnes_xor]
  rw [e2]
  exact xor32 4294967295#32 r

def exps : List Nat := [32, 26, 23, 22, 16, 12, 11, 10, 8, 7, 5, 4, 2, 1, 0]
def dRow (j : Nat) : List Bool := (exps.take j).foldl (fun c k => c.set (32 - k) true) (List.replicate 33 false)

theorem dRow_snoc (j k : Nat) (h : exps[j]? = some k) : dRow (j + 1) = (dRow j).set (32 - k) true := by
  obtain ⟨hj, rfl⟩ := List.getElem?_eq_some_iff.1 h
  unfold dRow
  rw [List.take_succ_eq_append_getElem hj, List.foldl_append]
  rfl

theorem dRow_length (j : Nat) : (dRow j).length = 33 := by
  unfold dRow
  generalize exps.take j = l
  have : ∀ (l : List Nat) (c : List Bool), (l.foldl (fun c k => c.set (32 - k) true) c).length = c.length := by
    intro l
    induction l with
    | nil => exact fun _ => rfl
    | cons k l ih => intro c; rw [List.foldl_cons, ih, List.length_set]
  rw [this]
  rfl

theorem dRow_end : dRow 15 = (List.range 33).map dAt := by decide +kernel

/-- A row of truths, as cells. -/
def boolsA (l : List Bool) : Array Value := (l.map Value.bool).toArray

theorem boolsA_set (l : List Bool) (i : Nat) (b : Bool) : (boolsA l).setIfInBounds i (.bool b) = boolsA (l.set i b) := by
  unfold boolsA
  rw [List.setIfInBounds_toArray, List.map_set]

theorem boolsA_get (l : List Bool) (i : Nat) (h : i < l.length) : (boolsA l)[i]? = some (.bool (l.getD i false)) := by
  unfold boolsA
  simp [List.getD_eq_getElem?_getD, h]

theorem exps_get (j : Nat) (h : j < 15) : ∃ k, exps[j]? = some k ∧ k ≤ 32 := by
  have hl : j < exps.length := h
  refine ⟨exps[j], by simp [hl], ?_⟩
  have : ∀ x ∈ exps, x ≤ 32 := by decide
  exact this _ (List.getElem_mem hl)

def expsA : Array Value := (exps.map fun k : Nat => Value.int .i64 (k : Int)).toArray

theorem expsA_get (j k : Nat) (h : exps[j]? = some k) : expsA[j]? = some (.int .i64 (k : Int)) := by
  unfold expsA
  simp [h]

theorem mk33 (w : World) : (Instr.makeSlice 148 (.int .i64 33) (.int .i64 33)).run Tryz.prog w = .ok (.slice (some ⟨w.heap.size, 0, none⟩) 33 33) (w.alloc (.cells (boolsA (dRow 0)) 4)) := by kernel_rfl

set_option maxHeartbeats 2000000 in
theorem divisor_any (u w : World) (F : HProp) (hs : Sat u w F) :
    Calls Tryz.prog 136 #[] w fun e w' => ∃ g, e = .returned (.slice (some ⟨g, 0, none⟩) 33 33) ∧ Sat u w' (own g (.cells (boolsA ((List.range 33).map dAt)) 4 (0, 0)) * F) := by
  have hmk := mk33 w
  have h1 := (hs.alloc (.cells (boolsA (dRow 0)) 4)).alloc (.cells expsA 3)
  rw [World.size_alloc] at h1
  go_enter Tryz.func136, Tryz.ntmps136
  go_wp2_with fail
  clear hmk
  have e0 : expsA = #[.int .i64 32, .int .i64 26, .int .i64 23, .int .i64 22, .int .i64 16, .int .i64 12, .int .i64 11, .int .i64 10, .int .i64 8, .int .i64 7, .int .i64 5, .int .i64 4, .int .i64 2, .int .i64 1, .int .i64 0] := rfl
  rw [← e0]
  clear e0
  generalize w.heap.size = g at h1 ⊢
  generalize (w.alloc _).alloc _ = w1 at h1 ⊢
  generalize g + 1 = g0 at h1 ⊢
  go_loopw [7] (fun i wr => ∃ j : Nat, j ≤ 15 ∧ i = .int .i64 j ∧ Sat u wr (own g0 (.cells expsA 3 (0, 0)) * (own g (.cells (boolsA (dRow j)) 4 (0, 0)) * F))) (fun i _ => 15 - (intOf i).toNat)
  case atStart => exact ⟨0, Nat.zero_le _, rfl, h1⟩
  case round =>
    obtain ⟨j, hj, rfl, h2⟩ := hrel
    clear h1
    by_cases hlt : j < 15
    · obtain ⟨k, hk, hk32⟩ := exps_get j hlt
      have c0 := h2.cell j
      rw [expsA_get j k hk] at c0
      have h3 := (h2.s2.setCell (32 - k) (.bool true)).s2
      rw [boolsA_set, ← dRow_snoc j k hk] at h3
      have f1 := h2.s2.free (32 - k)
      have c1 := h2.s2.cell (32 - k)
      rw [boolsA_get _ _ (by rw [dRow_length]; omega)] at c1
      have hT : (32 - (k : Int)).toNat = 32 - k := by omega
      have y1 : (j : Int) < 15 := by omega
      have y2 : 0 ≤ 32 - (k : Int) := by omega
      have y3 : 32 - (k : Int) < 33 := by omega
      have hw : IntKind.i64.wrap (32 - (k : Int)) = 32 - (k : Int) := IntWalk.i64_in _ (by omega)
      clear hk
      go_wp2
      go_roundw
      case rel => exact ⟨j + 1, hlt, by go_num, h3⟩
      case measure => simp [intOf]; omega
    · have e : j = 15 := by omega
      subst e
      rw [dRow_end] at h2
      go_wp2
      go_ret
      exact ⟨_, rfl, h2.right⟩

def rowF (R : List Bool) (j : Nat) : Bool := R.getD j false

/-- A block whose first cells are a row of truths. -/
def rowIs (cur : Array Value) (R : List Bool) : Prop := cur.toList.take R.length = R.map Value.bool ∧ R.length ≤ cur.size

theorem rowIs.get {cur : Array Value} {R : List Bool} (h : rowIs cur R) {i : Nat} (hi : i < R.length) : cur[i]? = some (.bool (R.getD i false)) := by
  have e : (cur.toList.take R.length)[i]? = (R.map Value.bool)[i]? := by rw [h.1]
  rw [List.getElem?_take, if_pos hi, List.getElem?_map] at e
  rw [← Array.getElem?_toList, e]
  simp [List.getD_eq_getElem?_getD, hi]

theorem rowIs.set {cur : Array Value} {R : List Bool} (h : rowIs cur R) (i : Nat) (b : Bool) : rowIs (cur.setIfInBounds i (.bool b)) (R.set i b) := by
  refine ⟨?_, by rw [List.length_set, Array.size_setIfInBounds]; exact h.2⟩
  rw [List.length_set, Array.toList_setIfInBounds, List.take_set, h.1, List.map_set]

theorem bool_at {u w : World} {F : HProp} {g : Nat} {cur : Array Value} {t : TypeId} {fr : Nat × Nat} {R : List Bool} (hs : Sat u w (own g (.cells cur t fr) * F)) (h : rowIs cur R) {i : Nat} (hi : i < R.length) :
    w.cell? ⟨g, i, none⟩ = some (.bool (R.getD i false)) := by rw [hs.cell, h.get hi]

theorem plus1 (r : BitVec 32) : HAdd.hAdd (Int.ofNat (r <<< 1).toNat) (1 : Int) = ((r <<< 1 ^^^ 1#32).toNat : Int) := by
  have e : (r <<< 1 ^^^ 1#32) = r <<< 1 ||| 1#32 := by
    refine BitVec.eq_of_getLsbD_eq fun i hi => ?_
    have e1 : (1#32 : BitVec 32) = BitVec.twoPow 32 0 := by decide
    rw [e1, BitVec.getLsbD_xor, BitVec.getLsbD_or, BitVec.getLsbD_shiftLeft, BitVec.getLsbD_twoPow]
    by_cases h0 : i = 0
    · subst h0; simp
    · have : ¬ 0 = i := fun h => h0 h.symm
      simp [this]
  have e2 : (r <<< 1 ||| 1#32).toNat = (r <<< 1).toNat + 1 := by
    rw [BitVec.toNat_or]
    have h : (r <<< 1).toNat = 2 ^ 1 * (r.toNat % 2 ^ 31) := by
      rw [BitVec.toNat_shiftLeft, Nat.shiftLeft_eq]
      omega
    rw [h]
    exact (Nat.two_pow_add_eq_or_of_lt (b := 1) (by decide) _).symm
  rw [e, e2]
  rfl

set_option maxHeartbeats 4000000 in
theorem rest_any (u w : World) (F : HProp) (g cap : Nat) (cur : Array Value) (R : List Bool) (hR : rowIs cur R) (h32 : 32 ≤ R.length) (hsz : R.length ≤ 1000000000) (hs : Sat u w (own g (.cells cur 4 (0, 0)) * F)) :
    Calls Tryz.prog 118 #[.slice (some ⟨g, 0, none⟩) R.length cap] w fun e w' => e = .returned (w32 (win (rowF (restR R (R.length - 32))) (R.length - 32) 32)) ∧ Sat u w' F := by
  go_enter Tryz.func118, Tryz.ntmps118
  go_wp2_with fail
  refine (divisor_any u w _ hs).mono ?_
  rintro e w1 ⟨gd, rfl, h1⟩
  dsimp only
  clear hs
  go_wp2_with fail
  go_loopw [4] (fun t wr => ∃ i : Nat, i ≤ R.length - 32 ∧ t = .int .i64 i ∧ ∃ cur, rowIs cur (restR R i) ∧ Sat u wr (own gd (.cells (boolsA ((List.range 33).map dAt)) 4 (0, 0)) * (own g (.cells cur 4 (0, 0)) * F))) (fun t _ => R.length - (intOf t).toNat)
  case atStart => exact ⟨0, Nat.zero_le _, rfl, cur, hR, h1⟩
  case round =>
    clear h1 hR
    obtain ⟨i, hi, rfl, cur1, hR1, h2⟩ := hrel
    have hl1 := restR_length R i
    by_cases hlt : i + 32 < R.length
    · have y1 : (i : Int) + 32 < R.length := by omega
      have hb0 := bool_at h2.s2 hR1 (i := i) (by omega)
      have e1 : restR R (i + 1) = if (restR R i).getD i false then flipN (restR R i) i 33 else restR R i := rfl
      have HE := Lib.hid e1
      clear e1
      generalize hq : restR R (i + 1) = S1 at HE
      have HQ := Lib.hid hq
      clear hq
      generalize restR R i = S at HE hR1 hl1 hb0
      go_wp2_with fail
      go_loopw [5] (fun t wr => ∃ k : Nat, k ≤ 33 ∧ (S.getD i false = false → k = 0) ∧ t = .int .i64 k ∧ ∃ cur, rowIs cur (flipN S i k) ∧ Sat u wr (own gd (.cells (boolsA ((List.range 33).map dAt)) 4 (0, 0)) * (own g (.cells cur 4 (0, 0)) * F))) (fun t _ => 33 - (intOf t).toNat)
      case atStart => exact ⟨0, Nat.zero_le _, fun _ => rfl, rfl, cur1, hR1, h2⟩
      case round =>
        clear h2 hb0 hR1
        obtain ⟨k, hk, hk0, rfl, cur2, hR2, h3⟩ := hrel
        have hl2 := flipN_length S i k
        have hb1 := bool_at h3.s2 hR2 (i := i) (by omega)
        rw [flipN_get, if_neg (by omega)] at hb1
        have hS1 : S.getD i false = false → S1 = S := fun h => by rw [HE.out, h]; rfl
        have hS2 : S.getD i false = true → S1 = flipN S i 33 := fun h => by rw [HE.out, h]; rfl
        have H1 := Lib.hid hS1
        have H2 := Lib.hid hS2
        have HL1 := Lib.hid hl1
        have HL2 := Lib.hid hl2
        clear hS1 hS2 hl1 hl2
        by_cases hk33 : k < 33
        · have y2 : (k : Int) < 33 := by omega
          cases hb : S.getD i false with
          | false =>
            have hk00 := hk0 hb
            subst hk00
            have e := H1.out hb
            subst e
            have HR := Lib.hid hR2
            rw [hb] at hb1
            clear hb hR2 hk0
            go_wp2_with fail
            go_roundw
            case rel => exact ⟨i + 1, by omega, by go_num, cur2, by rw [HQ.out]; exact HR.out, h3⟩
            case measure => simp [intOf]; omega
          | true =>
            rw [hb] at hb1
            have hd := h3.cell k
            rw [boolsA_get _ _ (by simp; omega)] at hd
            have hd2 : ((List.range 33).map dAt).getD k false = dAt k := by simp [List.getD_eq_getElem?_getD, hk33]
            rw [hd2] at hd
            clear hd2
            have HR := Lib.hid hR2
            have hst : flipN S i (k + 1) = if k ≠ 0 ∧ dAt k = true then (flipN S i k).set (i + k) (!(flipN S i k).getD (i + k) false) else flipN S i k := rfl
            have HST := Lib.hid hst
            clear hk0 hb hst
            by_cases k0 : k = 0
            · subst k0
              clear hR2 hd
              go_wp2_with fail
              go_roundw
              case rel => exact ⟨1, by omega, (fun h => by cases h), rfl, cur2, by rw [HST.out, if_neg (by simp)]; exact HR.out, h3⟩
              case measure => simp [intOf]
            · have y3 : (0 : Int) < (k : Int) := by omega
              cases hdk : dAt k with
              | false =>
                rw [hdk] at hd HST
                clear hR2 hdk
                go_wp2_with fail
                go_roundw
                case rel => exact ⟨k + 1, by omega, (fun h => by cases h), by go_num, cur2, by rw [HST.out, if_neg (by simp)]; exact HR.out, h3⟩
                case measure => simp [intOf]; omega
              | true =>
                rw [hdk] at hd HST
                have hx := bool_at h3.s2 hR2 (i := i + k) (by rw [HL2.out, HL1.out]; omega)
                have f1 := h3.s2.free (i + k)
                have h4 := (h3.s2.setCell (i + k) (.bool (!(flipN S i k).getD (i + k) false))).s2
                have hR3 : rowIs (cur2.setIfInBounds (i + k) (.bool (!(flipN S i k).getD (i + k) false))) (flipN S i (k + 1)) := by
                  rw [HST.out, if_pos ⟨k0, rfl⟩]
                  exact HR.out.set _ _
                generalize (flipN S i k).getD (i + k) false = xb at hx h4 hR3
                have HR3 := Lib.hid hR3
                have y4 : (i : Int) + (k : Int) < R.length := by omega
                clear hR2 hdk hR3 HR
                go_wp2_with fail
                go_roundw
                case rel => exact ⟨k + 1, by omega, (fun h => by cases h), by go_num, _, HR3.out, h4⟩
                case measure => simp [intOf]; omega
        · have e : k = 33 := by omega
          subst e
          have hb : S.getD i false = true := by
            cases hb : S.getD i false
            · exact absurd (hk0 hb) (by decide)
            · rfl
          have HR := Lib.hid (H2.out hb ▸ hR2)
          clear hk0 hb hR2 hb1
          go_wp2_with fail
          go_roundw
          case rel => exact ⟨i + 1, by omega, by go_num, cur2, by rw [HQ.out]; exact HR.out, h3⟩
          case measure => simp [intOf]; omega
    · have e : i = R.length - 32 := by omega
      have HI := Lib.hid e
      have hw : IntKind.i64.wrap ((R.length : Int) - 32) = (R.length : Int) - 32 := IntWalk.i64_in _ (by omega)
      have hfar : ((R.length : Int) - 32) = (i : Int) := by omega
      have hout : ¬ ((i : Int) + 32 < R.length) := by omega
      have HR := Lib.hid hR1
      have HL := Lib.hid hl1
      clear e hR1 hl1
      rw [← HI.out]
      go_wp2_with fail
      go_loopw [6, 7] (fun x t wr => ∃ m : Nat, m ≤ 32 ∧ t = .int .i64 ((i + m : Nat) : Int) ∧ x = w32 (win (rowF (restR R i)) i m) ∧ Sat u wr (own g (.cells cur1 4 (0, 0)) * F)) (fun _ t _ => R.length - (intOf t).toNat)
      case atStart => exact ⟨0, Nat.zero_le _, by simp, rfl, h2.right⟩
      case round =>
        clear h2
        obtain ⟨m, hm, rfl, rfl, h3⟩ := hrel
        by_cases hm32 : m < 32
        · have hb1 := bool_at h3 HR.out (i := i + m) (by rw [HL.out]; have := HI.out; omega)
          have hst : win (rowF (restR R i)) i (m + 1) = (win (rowF (restR R i)) i m <<< 1) ^^^ bitB (rowF (restR R i) (i + m)) := rfl
          have HST := Lib.hid hst
          have y1 : ((i + m : Nat) : Int) < R.length := by have := HI.out; omega
          have y2 : (i : Int) + (m : Int) < R.length := by omega
          have y3 : ((i : Int) + (m : Int)).toNat = i + m := by omega
          clear hst
          generalize win (rowF (restR R i)) i m = r at HST
          generalize hbb : (restR R i).getD (i + m) false = b at hb1
          have hbb' : rowF (restR R i) (i + m) = b := hbb
          rw [hbb'] at HST
          clear hbb hbb'
          cases b with
          | false =>
            go_wp2_with fail
            go_roundw
            case rel =>
              refine ⟨m + 1, by omega, by go_num, ?_, h3⟩
              rw [HST.out, mul2]
              show Value.int .u32 _ = Value.int .u32 _
              rw [show bitB false = 0#32 from rfl, BitVec.xor_zero]
              rfl
            case measure => simp [intOf]; omega
          | true =>
            go_wp2_with fail
            go_roundw
            case rel =>
              refine ⟨m + 1, by omega, by go_num, ?_, h3⟩
              rw [HST.out, mul2, plus1]
              rfl
            case measure => simp [intOf]; omega
        · have e : m = 32 := by omega
          subst e
          have y1 : ¬ ((i + 32 : Nat) : Int) < R.length := by have := HI.out; omega
          go_wp2_with fail
          go_ret
          exact ⟨by rw [← HI.out]; rfl, h3.right⟩

theorem info_bool : (Tryz.prog.info? 4).map (fun i => (i.zero, i.size, i.bytes)) = some (some (.bool false), 1, 1) := by kernel_rfl

/-- A row of truths of our own. -/
def ownL (v : Value) (xs : List Bool) : HProp := ownRow 4 1 v xs.length (xs.map Value.bool)

theorem bool_one (xs : List Bool) : ∀ y ∈ xs.map Value.bool, y.oneCell' = true := by
  intro y hy
  obtain ⟨c, _, rfl⟩ := List.mem_map.1 hy
  rfl

theorem one_at {u w : World} {F : HProp} {v x : Value} {n : Nat} {xs : List Value} {e : TypeId} (h : Sat u w (ownRow e 1 v n xs * F)) (t : TypeId) : RowAt (w.alloc (.cells #[x] t)) (.slice (some ⟨w.heap.size, 0, none⟩) 1 1) 1 [x] := by
  refine .inr ⟨_, _, rfl, Nat.le_refl _, by decide, fun j y hy => ?_⟩
  match j, hy with
  | 0, hy => cases hy; rw [addr_add]; exact (h.alloc (.cells #[x] t)).cell 0

theorem bit_any (c : UInt8) (k : Nat) (m : Int) (hm : m = ((c.toNat / 2 ^ k : Nat) : Int)) : (bits .and .u8 m 1 == 1) = c.toNat.testBit k := by
  subst hm
  have hlt : c.toNat / 2 ^ k < 256 := Nat.lt_of_le_of_lt (Nat.div_le_self _ _) c.toNat_lt
  have h1 : bits .and .u8 ((c.toNat / 2 ^ k : Nat) : Int) ((1 : Nat) : Int) = ((c.toNat / 2 ^ k &&& 1 : Nat) : Int) := u8_and_nat _ _ hlt (by decide)
  have h2 : bits .and .u8 ((c.toNat / 2 ^ k : Nat) : Int) 1 = ((c.toNat / 2 ^ k &&& 1 : Nat) : Int) := h1
  rw [h2, Nat.and_one_is_mod, Nat.testBit_eq_decide_div_mod_eq]
  have : c.toNat / 2 ^ k % 2 = 0 ∨ c.toNat / 2 ^ k % 2 = 1 := by omega
  rcases this with h | h <;> rw [h] <;> rfl

theorem bits8_snoc (y : UInt8) (k : Nat) (h : k < 8) : (bits8 y).take (k + 1) = (bits8 y).take k ++ [y.toNat.testBit (7 - k)] := by
  have hl : (bits8 y).length = 8 := by simp [bits8]
  rw [List.take_succ_eq_append_getElem (by omega)]
  simp [bits8]

/-- The row of which the first m are turned. -/
def turnR (M : List Bool) (m : Nat) : List Bool := M.zipIdx.map fun x => x.1 ^^ decide (x.2 < m)

theorem turnR_length (M : List Bool) (m : Nat) : (turnR M m).length = M.length := by simp [turnR]

theorem turnR_get (M : List Bool) (m j : Nat) : (turnR M m)[j]? = M[j]?.map fun b => b ^^ decide (j < m) := by
  unfold turnR
  rw [List.getElem?_map, List.getElem?_zipIdx]
  cases M[j]? <;> simp

theorem turnR_zero (M : List Bool) : turnR M 0 = M := by
  refine List.ext_getElem? fun j => ?_
  rw [turnR_get]
  cases M[j]? <;> simp

theorem turnR_succ (M : List Bool) (m : Nat) (h : m < M.length) : (turnR M m).set m (!(turnR M m).getD m false) = turnR M (m + 1) := by
  refine List.ext_getElem? fun j => ?_
  by_cases e : j = m
  · subst e
    rw [List.getElem?_set_self (by rw [turnR_length]; exact h), turnR_get, List.getD_eq_getElem?_getD, turnR_get, List.getElem?_eq_getElem h]
    simp
  · rw [List.getElem?_set_ne (fun h => e h.symm), turnR_get, turnR_get]
    have : decide (j < m + 1) = decide (j < m) := by rw [decide_eq_decide]; omega
    rw [this]

theorem rowB_turn (xs : List UInt8) : rowB xs = turnR (bitsB xs ++ List.replicate 32 false) 32 := rfl

theorem ownL_snoc {u w : World} {F : HProp} {v : Value} {L : List Bool} {b : Bool} (h : Sat u w (ownRow 4 1 v (L.length + 1) (L.map Value.bool ++ [.bool b]) * F)) : Sat u w (ownL v (L ++ [b]) * F) := by
  unfold ownL
  rw [List.length_append, List.map_append]
  exact h

set_option maxRecDepth 100000 in
set_option maxHeartbeats 4000000 in
theorem refSum_any (u w : World) (F : HProp) (v : Value) (xs : List UInt8) (hb : BytesAt w v xs) (hsz : xs.length ≤ 1000000) (hs : Sat u w F) (hk : ∀ w', Sat u w' F → BytesAt w' v xs) :
    Calls Tryz.prog 86 #[v] w fun e w' => e = .returned (w32 (sumB xs)) ∧ Sat u w' F := by
  obtain ⟨a, c, rfl, ho1, ho2⟩ := RowAt.len hb
  obtain ⟨i0, hi, hz0, hz1, hz2⟩ := info_parts info_bool
  have HK := Lib.hid hk
  clear hk hb
  go_enter Tryz.func86, Tryz.ntmps86
  go_wp2_with fail
  go_loopw [3, 4] (fun r t wr => ∃ j : Nat, j ≤ xs.length ∧ t = .int .i64 j ∧ Sat u wr (ownL r (bitsB (xs.take j)) * F)) (fun _ t _ => xs.length - (intOf t).toNat)
  case atStart => exact ⟨0, Nat.zero_le _, rfl, Sat.row_nil hs⟩
  case round =>
    clear hs
    obtain ⟨j, hj, rfl, h1⟩ := hrel
    by_cases hlt : j < xs.length
    · go_wp2_with fail
      have hbl : (bitsB (xs.take j)).length ≤ 8000000 := by rw [bitsB_length, List.length_take]; omega
      have hsn : bitsB (xs.take (j + 1)) = bitsB (xs.take j) ++ bits8 xs[j] := by
        rw [List.take_succ_eq_append_getElem hlt]
        unfold bitsB
        rw [List.flatMap_append]
        simp
      have hc : ∀ x, Sat u x F → ∃ b o, a = some ⟨b, o, none⟩ ∧ x.cell? ⟨b, o + j, none⟩ = some (.int .u8 (xs[j].toNat : Int)) := by
        intro x hx
        obtain ⟨b, o, c', hv, _, _, q⟩ := (HK.out x hx).open (by omega)
        cases hv
        exact ⟨b, o, rfl, q j xs[j] (by simp [hlt])⟩
      have HC := Lib.hid hc
      have HS := Lib.hid hsn
      clear hc hsn
      generalize xs[j] = y at HC HS
      generalize bitsB (xs.take j) = A at HS h1 hbl
      go_loopw [3, 5] (fun r t wr => ∃ k : Nat, k ≤ 8 ∧ t = .int .i64 (7 - (k : Int)) ∧ Sat u wr (ownL r (A ++ (bits8 y).take k) * F)) (fun _ t _ => ((intOf t) + 1).toNat)
      case atStart => exact ⟨0, Nat.zero_le _, rfl, by rw [List.take_zero, List.append_nil]; exact h1⟩
      case round =>
        clear h1
        obtain ⟨k, hk, rfl, h2⟩ := hrel
        by_cases hk8 : k < 8
        · obtain ⟨b, o, rfl, hcc⟩ := HC.out _ h2.right
          have hnum : k = 0 ∨ k = 1 ∨ k = 2 ∨ k = 3 ∨ k = 4 ∨ k = 5 ∨ k = 6 ∨ k = 7 := by omega
          have hb8 : (A ++ (bits8 y).take k).length ≤ 8000008 := by simp [bits8]; omega
          have hsn : A ++ (bits8 y).take (k + 1) = (A ++ (bits8 y).take k) ++ [y.toNat.testBit (7 - k)] := by rw [bits8_snoc y k hk8, List.append_assoc]
          have HSN := Lib.hid hsn
          clear hsn
          generalize A ++ (bits8 y).take k = L at h2 hb8 HSN
          unfold ownL at h2
          rcases hnum with rfl | rfl | rfl | rfl | rfl | rfl | rfl | rfl
          · have hbit := bit_any y 7 ((y.toNat : Int) / 128) (by rfl)
            rw [show 7 - 0 = 7 from rfl] at HSN
            generalize y.toNat.testBit 7 = tb at hbit HSN
            go_wp2_with (at_builtin; refine wpList_append_sl rfl _ _ 148 rfl i0 (.bool false) Tryz.underlying148 hi hz0 hz1 hz2 rfl (by decide) rfl rfl (h2.alloc (.cells #[.bool tb] 4)).right (one_at (x := .bool tb) h2 4) rfl (by intro q hq; cases hq with | head => rfl | tail _ hq => cases hq) (by omega) ?_; intro a3 c3 w3 h4 hx; clear hx)
            go_roundw
            case rel => exact ⟨1, by omega, rfl, by rw [HSN.out]; exact ownL_snoc h4⟩
            case measure => simp [intOf]
          · have hbit := bit_any y 6 ((y.toNat : Int) / 64) (by rfl)
            rw [show 7 - 1 = 6 from rfl] at HSN
            generalize y.toNat.testBit 6 = tb at hbit HSN
            go_wp2_with (at_builtin; refine wpList_append_sl rfl _ _ 148 rfl i0 (.bool false) Tryz.underlying148 hi hz0 hz1 hz2 rfl (by decide) rfl rfl (h2.alloc (.cells #[.bool tb] 4)).right (one_at (x := .bool tb) h2 4) rfl (by intro q hq; cases hq with | head => rfl | tail _ hq => cases hq) (by omega) ?_; intro a3 c3 w3 h4 hx; clear hx)
            go_roundw
            case rel => exact ⟨2, by omega, rfl, by rw [HSN.out]; exact ownL_snoc h4⟩
            case measure => simp [intOf]
          · have hbit := bit_any y 5 ((y.toNat : Int) / 32) (by rfl)
            rw [show 7 - 2 = 5 from rfl] at HSN
            generalize y.toNat.testBit 5 = tb at hbit HSN
            go_wp2_with (at_builtin; refine wpList_append_sl rfl _ _ 148 rfl i0 (.bool false) Tryz.underlying148 hi hz0 hz1 hz2 rfl (by decide) rfl rfl (h2.alloc (.cells #[.bool tb] 4)).right (one_at (x := .bool tb) h2 4) rfl (by intro q hq; cases hq with | head => rfl | tail _ hq => cases hq) (by omega) ?_; intro a3 c3 w3 h4 hx; clear hx)
            go_roundw
            case rel => exact ⟨3, by omega, rfl, by rw [HSN.out]; exact ownL_snoc h4⟩
            case measure => simp [intOf]
          · have hbit := bit_any y 4 ((y.toNat : Int) / 16) (by rfl)
            rw [show 7 - 3 = 4 from rfl] at HSN
            generalize y.toNat.testBit 4 = tb at hbit HSN
            go_wp2_with (at_builtin; refine wpList_append_sl rfl _ _ 148 rfl i0 (.bool false) Tryz.underlying148 hi hz0 hz1 hz2 rfl (by decide) rfl rfl (h2.alloc (.cells #[.bool tb] 4)).right (one_at (x := .bool tb) h2 4) rfl (by intro q hq; cases hq with | head => rfl | tail _ hq => cases hq) (by omega) ?_; intro a3 c3 w3 h4 hx; clear hx)
            go_roundw
            case rel => exact ⟨4, by omega, rfl, by rw [HSN.out]; exact ownL_snoc h4⟩
            case measure => simp [intOf]
          · have hbit := bit_any y 3 ((y.toNat : Int) / 8) (by rfl)
            rw [show 7 - 4 = 3 from rfl] at HSN
            generalize y.toNat.testBit 3 = tb at hbit HSN
            go_wp2_with (at_builtin; refine wpList_append_sl rfl _ _ 148 rfl i0 (.bool false) Tryz.underlying148 hi hz0 hz1 hz2 rfl (by decide) rfl rfl (h2.alloc (.cells #[.bool tb] 4)).right (one_at (x := .bool tb) h2 4) rfl (by intro q hq; cases hq with | head => rfl | tail _ hq => cases hq) (by omega) ?_; intro a3 c3 w3 h4 hx; clear hx)
            go_roundw
            case rel => exact ⟨5, by omega, rfl, by rw [HSN.out]; exact ownL_snoc h4⟩
            case measure => simp [intOf]
          · have hbit := bit_any y 2 ((y.toNat : Int) / 4) (by rfl)
            rw [show 7 - 5 = 2 from rfl] at HSN
            generalize y.toNat.testBit 2 = tb at hbit HSN
            go_wp2_with (at_builtin; refine wpList_append_sl rfl _ _ 148 rfl i0 (.bool false) Tryz.underlying148 hi hz0 hz1 hz2 rfl (by decide) rfl rfl (h2.alloc (.cells #[.bool tb] 4)).right (one_at (x := .bool tb) h2 4) rfl (by intro q hq; cases hq with | head => rfl | tail _ hq => cases hq) (by omega) ?_; intro a3 c3 w3 h4 hx; clear hx)
            go_roundw
            case rel => exact ⟨6, by omega, rfl, by rw [HSN.out]; exact ownL_snoc h4⟩
            case measure => simp [intOf]
          · have hbit := bit_any y 1 ((y.toNat : Int) / 2) (by rfl)
            rw [show 7 - 6 = 1 from rfl] at HSN
            generalize y.toNat.testBit 1 = tb at hbit HSN
            go_wp2_with (at_builtin; refine wpList_append_sl rfl _ _ 148 rfl i0 (.bool false) Tryz.underlying148 hi hz0 hz1 hz2 rfl (by decide) rfl rfl (h2.alloc (.cells #[.bool tb] 4)).right (one_at (x := .bool tb) h2 4) rfl (by intro q hq; cases hq with | head => rfl | tail _ hq => cases hq) (by omega) ?_; intro a3 c3 w3 h4 hx; clear hx)
            go_roundw
            case rel => exact ⟨7, by omega, rfl, by rw [HSN.out]; exact ownL_snoc h4⟩
            case measure => simp [intOf]
          · have hbit := bit_any y 0 ((y.toNat : Int)) (by simp)
            rw [show 7 - 7 = 0 from rfl] at HSN
            generalize y.toNat.testBit 0 = tb at hbit HSN
            go_wp2_with (at_builtin; refine wpList_append_sl rfl _ _ 148 rfl i0 (.bool false) Tryz.underlying148 hi hz0 hz1 hz2 rfl (by decide) rfl rfl (h2.alloc (.cells #[.bool tb] 4)).right (one_at (x := .bool tb) h2 4) rfl (by intro q hq; cases hq with | head => rfl | tail _ hq => cases hq) (by omega) ?_; intro a3 c3 w3 h4 hx; clear hx)
            go_roundw
            case rel => exact ⟨8, by omega, rfl, by rw [HSN.out]; exact ownL_snoc h4⟩
            case measure => simp [intOf]
        · have e : k = 8 := by omega
          subst e
          have hl8 : (bits8 y).take 8 = bits8 y := List.take_of_length_le (by simp [bits8])
          rw [hl8, ← HS.out] at h2
          clear hl8
          go_wp2_with fail
          go_roundw
          case rel => exact ⟨j + 1, by omega, by go_num, h2⟩
          case measure => simp [intOf]; omega
    · have e : j = xs.length := by omega
      subst e
      rw [List.take_length] at h1
      have hlen := bitsB_length xs
      have HLN := Lib.hid hlen
      have hb8 : (bitsB xs).length ≤ 8000000 := by omega
      have HXS := Lib.hid (rowB_turn xs)
      have HSR : Hid (~~~ win (rowF (restR (rowB xs) (8 * xs.length))) (8 * xs.length) 32 = sumB xs) := Lib.hid (sum_rest xs)
      rw [HXS.out] at HSR
      clear hlen HXS
      generalize bitsB xs = L at h1 HLN hb8 HSR
      unfold ownL at h1
      go_wp2_with (at_builtin; refine wpList_append_zeros rfl _ _ 148 3 rfl i0 (.bool false) .i64 .i64 Tryz.underlying148 Tryz.underlying3 hi hz0 hz1 rfl (by decide) (by intro y hy; simp [Value.cells] at hy; subst hy; rfl) (by omega) 32 rfl rfl h1 (by rw [hz2]; omega) ?_; intro a3 c3 w3 h2)
      have hM : Sat u w3 (ownL (.slice a3 (L.length + 32) c3) (L ++ List.replicate 32 false) * F) := by
        unfold ownL
        rw [List.length_append, List.length_replicate, List.map_append, List.map_replicate]
        rw [noughts_eq rfl] at h2
        exact h2
      clear h1 h2
      have hMl : (L ++ List.replicate 32 false).length = L.length + 32 := by simp
      generalize L ++ List.replicate 32 false = M at hM hMl HSR
      rw [← hMl]
      rw [← hMl] at hM
      have hML : M.length = 8 * xs.length + 32 := by rw [hMl, HLN.out]
      clear hMl hlt hj
      have hM32 : 32 ≤ M.length := by omega
      have hMs : M.length ≤ 1000000000 := by omega
      rcases Sat.row_iff.1 hM with ⟨_, h0, _, _⟩ | ⟨g, cap, cur, hv, q1, q2, q3, q4, q5, h3⟩
      · omega
      cases hv
      have hcur : rowIs cur M := ⟨by simpa using q4, by omega⟩
      clear q1 q2 q3 q4 q5 hM
      rw [← turnR_zero M] at hcur
      have HML := Lib.hid hML
      clear hML
      go_loopw [6] (fun t wr => ∃ m : Nat, m ≤ 32 ∧ t = .int .i64 m ∧ ∃ cur, rowIs cur (turnR M m) ∧ Sat u wr (own g (.cells cur 4 (0, 0)) * F)) (fun t _ => 32 - (intOf t).toNat)
      case atStart => exact ⟨0, Nat.zero_le _, rfl, cur, hcur, h3⟩
      case round =>
        clear hcur h3
        obtain ⟨m, hm, rfl, cur1, hcur1, h4⟩ := hrel
        by_cases hm32 : m < 32
        · have c0 := bool_at h4 hcur1 (i := m) (by rw [turnR_length]; omega)
          have f0 := h4.free m
          have h5 := h4.setCell m (.bool (!(turnR M m).getD m false))
          have hcur2 := hcur1.set m (!(turnR M m).getD m false)
          rw [turnR_succ M m (by omega)] at hcur2
          have HC2 := Lib.hid hcur2
          have y1 : (m : Int) < M.length := by omega
          clear hcur1 hcur2
          generalize (turnR M m).getD m false = b at c0 h5 HC2
          go_wp2_with fail
          go_roundw
          case rel => exact ⟨m + 1, hm32, by go_num, _, HC2.out, h5⟩
          case measure => simp [intOf]; omega
        · have e : m = 32 := by omega
          subst e
          have hT := turnR_length M 32
          generalize turnR M 32 = T at hcur1 hT HSR
          go_wp2_with fail
          rw [← hT]
          refine (rest_any u _ F g c3 cur1 T hcur1 (by omega) (by omega) h4).mono ?_
          rintro e w4 ⟨rfl, h5⟩
          have e1 : T.length - 32 = 8 * xs.length := by rw [hT, HML.out]; omega
          rw [e1]
          clear hT e1 hcur1
          dsimp only
          generalize win (rowF (restR T (8 * xs.length))) (8 * xs.length) 32 = X at HSR ⊢
          go_wp2_with fail
          go_ret
          refine ⟨?_, h5⟩
          rw [← HSR.out]
          exact congrArg (fun x => Ending.returned (.int .u32 x)) (not32 X)
end Go.Proofs.YtlfmkiclaijokaaGreatDoor
