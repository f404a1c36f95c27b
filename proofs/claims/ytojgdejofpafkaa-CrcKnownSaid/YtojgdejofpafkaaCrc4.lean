/- slices.Backward over bytes; crc.ahead. -/
import Derived.RangeFuncNested
import Derived.RangeFuncBound
import Derived.RangeFuncCalls
import Derived.RangeFuncLeaves
import Derived.Shelf.Abstract
import Derived.Shelf.RegionOpen
import Derived.WalkKit
import Derived.OwnWalkIn
import Derived.TacticsInMore
import Derived.LoopNIn
import Derived.LoopIn
import Derived.Test.YtojgdejofpafkaaCrc3
namespace Go.Proofs.Ytojgdejofpafkaa
open Go.RowKit Go.Shelf
set_option linter.unusedVariables false
attribute [local go_sem] Oper.semAt_some

/-- All blocks below n but r stay. -/
def KeptBut (n r : Nat) (A B : World) : Prop := ∀ k, k < n → k ≠ r → B.heap[k]? = A.heap[k]?

theorem KeptBut.refl (n r : Nat) (A : World) : KeptBut n r A A := fun _ _ _ => rfl
theorem KeptBut.trans {n r : Nat} {A B C : World} (h : KeptBut n r A B) (h' : KeptBut n r B C) : KeptBut n r A C := fun k hk hr => (h' k hk hr).trans (h k hk hr)
theorem KeptBut.cell {n r : Nat} {A B : World} (h : KeptBut n r A B) {b o : Nat} (hb : b < n) (hr : b ≠ r) : B.cell? ⟨b, o, none⟩ = A.cell? ⟨b, o, none⟩ := by
  unfold World.cell?
  simp only
  rw [h b hb hr]

set_option maxRecDepth 100000 in
set_option maxHeartbeats 2000000 in
theorem back1_in (F : Fence) (n : Nat) (h53 : F.fn 53) (hro : F.round = none) (hn : 1 ≤ n) (l Bs n₀ rb b off cap : Nat) (xs : List UInt8) (hcap : xs.length ≤ 1000000000) (hB : Bs < n₀) (hBr : Bs ≠ rb) (hb : b < n₀) (hbr : b ≠ rb)
    (J Jx : List (Nat × UInt8) → World → Prop)
    (hY : ∀ pre x W, J pre W → pre.length < xs.length → YieldAt F (n - 1) Try.prog l #[.int .i64 (x.1 : Int), .int .u8 (x.2.toNat : Int)] W fun e W' =>
      (e = .returned (.bool true) ∧ J (pre ++ [x]) W' ∧ KeptBut n₀ rb W W') ∨ (e = .returned (.bool false) ∧ Jx (pre ++ [x]) W'))
    (W : World) (hBs : W.cell? ⟨Bs, 0, none⟩ = some (.slice (some ⟨b, off, none⟩) xs.length cap)) (hc : ∀ (j : Nat) (y : UInt8), xs[j]? = some y → W.cell? ⟨b, off + j, none⟩ = some (.int .u8 y.toNat)) (h0 : J [] W) :
    CallsIn F n Try.prog 53 #[.func (.yield l) #[] #[], .pointer (some ⟨Bs, 0, none⟩)] W fun e W' => (∃ v, e = .returned v) ∧
      ((∃ ys, ys.map Prod.snd = xs.reverse ∧ J ys W') ∨ (∃ pre, Jx pre W')) := by
  refine callsIn_of_wp Try.func53 rfl h53 ?_ hro
  simp only [Try.ntmps53, List.size_toArray, List.length_cons, List.length_nil, Nat.reduceAdd, Nat.reduceSub, Array.replicate_succ, Array.replicate_zero, List.push_toArray, List.append_toArray, List.nil_append, List.cons_append]
  gi_wp2
  gi_loopw [3] (fun i wr => ∃ m : Nat, m ≤ xs.length ∧ i = .int .i64 ((m : Int) - 1) ∧ (∃ ys : List (Nat × UInt8), ys.map Prod.snd = (xs.drop m).reverse ∧ J ys wr) ∧ KeptBut n₀ rb W wr) (fun i _ => (intOf i + 1).toNat)
  case atStart => exact ⟨xs.length, Nat.le_refl _, rfl, ⟨[], by simp, h0⟩, .refl _ _ _⟩
  case round =>
    obtain ⟨m, hm, rfl, ⟨ys, hys, hJs⟩, hkp⟩ := hrel
    cases m with
    | zero =>
      rw [show (((0 : Nat) : Int) - 1) = -1 from rfl]
      gi_wp2
      go_end0
      exact ⟨⟨_, rfl⟩, .inl ⟨ys, by simpa using hys, hJs⟩⟩
    | succ m =>
      have hi : (((m + 1 : Nat) : Int) - 1) = (m : Int) := by omega
      rw [hi]
      obtain ⟨y, hy⟩ : ∃ y, xs[m]? = some y := ⟨xs[m]'(by omega), List.getElem?_eq_getElem _⟩
      have hcx : wr.cell? ⟨b, off + m, none⟩ = some (.int .u8 y.toNat) := (hkp.cell hb hbr).trans (hc m y hy)
      have hbx : wr.cell? ⟨Bs, 0, none⟩ = some (.slice (some ⟨b, off, none⟩) xs.length cap) := (hkp.cell hB hBr).trans hBs
      have hyl : ys.length < xs.length := by
        have := congrArg List.length hys
        simp at this
        omega
      obtain ⟨fn, tmps, assign, body, hyy, hR⟩ := hY ys (m, y) wr hJs hyl
      dsimp only at hyy
      have HY := Lib.hid hys
      clear hi hys hc hBs
      gi_wp2
      refine hR.mono ?_
      rintro e W3 (⟨rfl, hJ3, hk3⟩ | ⟨rfl, hJx3⟩)
      · gi_wp2
        go_roundw
        case rel =>
          refine ⟨m, by omega, rfl, ⟨ys ++ [(m, y)], ?_, hJ3⟩, hkp.trans hk3⟩
          obtain ⟨hlt, rfl⟩ := List.getElem?_eq_some_iff.1 hy
          rw [List.map_append, HY.out, List.drop_eq_getElem_cons hlt, List.reverse_cons]
          rfl
        case measure => simp [intOf]
      · gi_wp2
        refine bodyPost_ret (results_none rfl _ _ _) rfl ?_
        exact ⟨⟨_, rfl⟩, .inr ⟨_, hJx3⟩⟩

set_option maxRecDepth 100000 in
set_option maxHeartbeats 1000000 in
theorem back1_nil_in (F : Fence) (n : Nat) (h53 : F.fn 53) (hro : F.round = none) (l Bs : Nat) (J : List (Nat × UInt8) → World → Prop) (a : Option Addr) (c : Nat) (W : World) (hBs : W.cell? ⟨Bs, 0, none⟩ = some (.slice a 0 c)) (h0 : J [] W) :
    CallsIn F n Try.prog 53 #[.func (.yield l) #[] #[], .pointer (some ⟨Bs, 0, none⟩)] W fun e W' => (∃ v, e = .returned v) ∧ J [] W' := by
  refine callsIn_of_wp Try.func53 rfl h53 ?_ hro
  simp only [Try.ntmps53, List.size_toArray, List.length_cons, List.length_nil, Nat.reduceAdd, Nat.reduceSub, Array.replicate_succ, Array.replicate_zero, List.push_toArray, List.append_toArray, List.nil_append, List.cons_append]
  gi_wp2
  gi_loopw [3] (fun i wr => i = .int .i64 (-1) ∧ J [] wr) (fun _ _ => 0)
  case atStart => exact ⟨rfl, h0⟩
  case round =>
    obtain ⟨rfl, hJs⟩ := hrel
    gi_wp2
    go_end0
    exact ⟨⟨_, rfl⟩, hJs⟩

theorem back_in (F : Fence) (n : Nat) (h51 : F.fn 51) (hro : F.round = none) (a : Option Addr) (len cap : Nat) (w : World) :
    CallsIn F n Try.prog 51 #[.slice a len cap] w fun e w' => e = .returned (.func (.func 53) #[] #[.pointer (some ⟨w.heap.size, 0, none⟩)]) ∧ w' = w.alloc (.cells #[.slice a len cap] 22) := by
  refine callsIn_of_wp Try.func51 rfl h51 ?_ hro
  simp only [Try.ntmps51, List.size_toArray, List.length_cons, List.length_nil, Nat.reduceAdd, Nat.reduceSub, Array.replicate_succ, Array.replicate_zero, List.push_toArray, List.append_toArray, List.nil_append, List.cons_append]
  gi_wp2
  go_ret
  exact ⟨rfl, rfl⟩

/-- The closure in the world w: all bytes, from behind. -/
theorem back_stops (F : Fence) (n : Nat) (h53 : F.fn 53) (hro : F.round = none) (hn : 1 ≤ n) (Bs rb : Nat) (v : Value) (xs : List UInt8) (hcap : xs.length ≤ 1000000000) (w : World) (hBr : Bs ≠ rb)
    (hBs : w.cell? ⟨Bs, 0, none⟩ = some v) (hb : BytesAt w v xs) (hrb : ∀ b o c, v = .slice (some ⟨b, o, none⟩) xs.length c → xs.length ≠ 0 → b ≠ rb) :
    SeqStopsK F n Try.prog 53 #[.pointer (some ⟨Bs, 0, none⟩)] (fun x : Nat × UInt8 => #[.int .i64 (x.1 : Int), .int .u8 (x.2.toNat : Int)]) (KeptBut w.heap.size rb) (fun ys => ys.map Prod.snd = xs.reverse) (fun _ => True) xs.length w := fun l J Jx W hW _ _ hY h0 => by
  have hBl := World.block_lt_of_cell? w _ hBs
  have hBs' := (hW.cell (p := ⟨Bs, 0, none⟩) hBl).trans hBs
  by_cases hx : xs.length = 0
  · have hx' : xs = [] := List.eq_nil_of_length_eq_zero hx
    subst hx'
    obtain ⟨a, c, rfl, _, _⟩ := RowAt.len hb
    exact (back1_nil_in F n h53 hro l Bs J a c W hBs' h0).mono fun e W' ⟨he, hj⟩ => ⟨he, .inl ⟨_, rfl, hj⟩⟩
  · obtain ⟨b, o, c, rfl, _, _, hc⟩ := hb.open (by omega)
    have hbl : b < w.heap.size := World.block_lt_of_cell? w _ (hc 0 xs[0] (by simp))
    refine (back1_in F n h53 hro hn l Bs w.heap.size rb b o c xs hcap hBl hBr hbl (hrb b o c rfl hx) J Jx hY W hBs' (fun j y hy => (hW.cell (p := ⟨b, o + j, none⟩) hbl).trans (hc j y hy)) h0).mono ?_
    rintro e W' ⟨he, ⟨ys, hys, hj⟩ | ⟨pre, hj⟩⟩
    · exact ⟨he, .inl ⟨ys, hys, hj⟩⟩
    · exact ⟨he, .inr ⟨pre, trivial, hj⟩⟩
end Go.Proofs.Ytojgdejofpafkaa
