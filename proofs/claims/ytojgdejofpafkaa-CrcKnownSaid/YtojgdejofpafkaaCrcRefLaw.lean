/- The reference's Fix: its rows, and why they solve the equations: plain laws. No program in sight. -/
import Derived.Test.YtojgdejofpafkaaCrcFixLaw
import Derived.Test.YtojgdejofpafkaaCrcGauss
namespace Go.Proofs.Ytojgdejofpafkaa
open Go.RowKit

/-- A block whose first cells are these bytes. -/
def rowIsB (cur : Array Value) (l : List UInt8) : Prop := cur.toList.take l.length = l.map B ∧ l.length ≤ cur.size

theorem rowIsB.has {cur : Array Value} {l : List UInt8} (h : rowIsB cur l) {i : Nat} (hi : i < l.length) : ∃ v, cur[i]? = some v :=
  ⟨cur[i]'(Nat.lt_of_lt_of_le hi h.2), Array.getElem?_eq_getElem _⟩

theorem rowIsB.set {cur : Array Value} {l : List UInt8} (h : rowIsB cur l) (i : Nat) (b : UInt8) : rowIsB (cur.setIfInBounds i (B b)) (l.set i b) := by
  refine ⟨?_, by rw [List.length_set, Array.size_setIfInBounds]; exact h.2⟩
  rw [List.length_set, Array.toList_setIfInBounds, List.take_set, h.1, List.map_set]

/-- A block whose first 32 cells are these numbers. -/
def rowIsN (cur : Array Value) (a : Nat → BitVec 32) : Prop := ∀ i, i < 32 → cur[i]? = some (.int .u32 ((a i).toNat : Int))

theorem rowIsN.set {cur : Array Value} {a : Nat → BitVec 32} (h : rowIsN cur a) (i : Nat) (v : BitVec 32) : rowIsN (cur.setIfInBounds i (.int .u32 (v.toNat : Int))) (fun j => if j = i then v else a j) := by
  intro j hj
  by_cases e : j = i
  · subst e
    have hs : j < cur.size := (Array.getElem?_eq_some_iff.1 (h j hj)).1
    simp [hs]
  · rw [Array.getElem?_setIfInBounds_ne (fun h => e h.symm), h j hj]
    simp [e]

theorem swp_fun (a : Nat → BitVec 32) (n p : Nat) : (fun j => if j = p then a n else if j = n then a p else a j) = swp a n p := by
  funext j
  unfold swp
  by_cases e1 : j = p
  · subst e1
    by_cases e2 : j = n
    · subst e2; simp
    · simp [e2]
  · by_cases e2 : j = n
    · subst e2; simp [e1]
    · simp [e1, e2]

theorem addTo_fun (a : Nat → BitVec 32) (n i : Nat) : (fun j => if j = i then a i ^^^ a n else a j) = addTo a n i := rfl

/-- The row with four noughts in the hole. -/
def zeroB (xs : List UInt8) (p : Nat) : List UInt8 := xs.take p ++ ([0, 0, 0, 0] ++ xs.drop (p + 4))

theorem zeroB_length (xs : List UInt8) (p : Nat) (h : p + 4 ≤ xs.length) : (zeroB xs p).length = xs.length := by
  unfold zeroB
  simp
  omega

theorem zeroB_eq (xs : List UInt8) (p : Nat) (h : p + 4 ≤ xs.length) : (((xs.set p 0).set (p + 1) 0).set (p + 2) 0).set (p + 3) 0 = zeroB xs p := set_four xs p h 0 0 0 0

theorem set_hole (pre mid rest : List UInt8) (j : Nat) (v : UInt8) (hj : j < mid.length) : (pre ++ (mid ++ rest)).set (pre.length + j) v = pre ++ (mid.set j v ++ rest) := by
  rw [List.set_append_right _ _ (by omega), Nat.add_sub_cancel_left, List.set_append_left _ _ hj]

theorem bit_bytes : ∀ k : Fin 32, ([0, 0, 0, 0] : List UInt8).set (k.val / 8) (UInt8.ofNat (128 >>> (k.val % 8))) = bytesB (BitVec.twoPow 32 (31 - k.val)) := by decide +kernel

theorem zero_bit (xs : List UInt8) (p k : Nat) (h : p + 4 ≤ xs.length) (hk : k < 32) :
    (zeroB xs p).set (p + k / 8) (UInt8.ofNat (128 >>> (k % 8))) = xs.take p ++ (bytesB (BitVec.twoPow 32 (31 - k)) ++ xs.drop (p + 4)) := by
  have hl : (xs.take p).length = p := by simp; omega
  have := set_hole (xs.take p) [0, 0, 0, 0] (xs.drop (p + 4)) (k / 8) (UInt8.ofNat (128 >>> (k % 8))) (by simp; omega)
  rw [hl] at this
  unfold zeroB
  rw [this, bit_bytes ⟨k, hk⟩]

theorem zero_back (xs : List UInt8) (p k : Nat) (h : p + 4 ≤ xs.length) (hk : k < 32) (v : UInt8) : ((zeroB xs p).set (p + k / 8) v).set (p + k / 8) 0 = zeroB xs p := by
  rw [List.set_set]
  have hl : (xs.take p).length = p := by simp; omega
  have := set_hole (xs.take p) [0, 0, 0, 0] (xs.drop (p + 4)) (k / 8) 0 (by simp; omega)
  rw [hl] at this
  unfold zeroB
  rw [this]
  have : ∀ j, j < 4 → ([0, 0, 0, 0] : List UInt8).set j 0 = [0, 0, 0, 0] := by decide
  rw [this _ (by omega)]

theorem sum_bytes (xs : List UInt8) (p : Nat) (x : BitVec 32) : sumB (xs.take p ++ (bytesB x ++ xs.drop (p + 4))) = sumB (zeroB xs p) ^^^ addB (xs.drop (p + 4)) x := by
  have := sum_hole (xs.take p) (xs.drop (p + 4)) (byteB x 0) (byteB x 1) (byteB x 2) (byteB x 3)
  rw [four_bytes] at this
  exact this

/-- The k-th single bit, and what it adds. -/
def bitN (k : Nat) : BitVec 32 := BitVec.twoPow 32 (31 - k)
def addN (rest : List UInt8) (k : Nat) : BitVec 32 := addB rest (bitN k)

theorem sum_bit (xs : List UInt8) (p k : Nat) (h : p + 4 ≤ xs.length) (hk : k < 32) : sumB ((zeroB xs p).set (p + k / 8) (UInt8.ofNat (128 >>> (k % 8)))) ^^^ sumB (zeroB xs p) = addN (xs.drop (p + 4)) k := by
  rw [zero_bit xs p k h hk, sum_bytes]
  unfold addN bitN
  generalize sumB (zeroB xs p) = b
  rw [BitVec.xor_comm, ← BitVec.xor_assoc, BitVec.xor_self, BitVec.zero_xor]

theorem solved_start (rest : List UInt8) : Solved (addB rest) (addN rest) bitN 0 := by
  refine ⟨fun _ _ => rfl, fun y => ?_, fun j _ hj => absurd hj (by omega)⟩
  obtain ⟨x, rfl⟩ := addB_onto rest y
  refine Span.map (a := bitN) (addB_xor rest) (addB_zero rest) (fun _ _ => rfl) (span_bits (fun k hk => ?_) x)
  have := Span.one (a := bitN) (i := 31 - k) (by omega)
  unfold bitN at this
  have e : 31 - (31 - k) = k := by omega
  rwa [e] at this

/-- The bytes that the equations yield are those of Fix. -/
theorem solved_fix (xs : List UInt8) (p : Nat) (want : BitVec 32) {a b : Nat → BitVec 32} (h : Solved (addB (xs.drop (p + 4))) a b 32) :
    xs.take p ++ (bytesB (solB b (want ^^^ sumB (zeroB xs p)) 32) ++ xs.drop (p + 4)) = fixB xs p want := by
  have hs := h.sol (addB_xor _) (addB_zero _) (want ^^^ sumB (zeroB xs p))
  refine (fix_other xs p want _ _ _ _).1 ?_
  have := sum_bytes xs p (solB b (want ^^^ sumB (zeroB xs p)) 32)
  unfold bytesB at this
  rw [this, hs]
  generalize sumB (zeroB xs p) = z
  rw [BitVec.xor_comm, BitVec.xor_assoc, BitVec.xor_self, BitVec.xor_zero]
end Go.Proofs.Ytojgdejofpafkaa
