/- The contracts of fields.Writer: what each call puts. -/
import Derived.Test.YtlfmkiclaijokaaGreatDoorMk1
import Derived.Test.YtlfmkiclaijokaaGreatDoorMk3
import Derived.Test.YtlfmkiclaijokaaGreatDoorProg
import Derived.KernelRfl
namespace Go.Proofs.YtlfmkiclaijokaaGreatDoor
open Go.RowKit

theorem info_u8 : (Tryz.prog.info? 5).map (fun i => (i.zero, i.size, i.bytes)) = some (some (.int .u8 0), 1, 1) := by kernel_rfl

/-- A row of bytes of our own. -/
def ownB (v : Value) (xs : List UInt8) : HProp := ownRow 5 1 v xs.length (xs.map B)

theorem Sat.bytes {u w : World} {F : HProp} {v : Value} {xs : List UInt8} (h : Sat u w (ownB v xs * F)) : BytesAt w v xs := Sat.row_at h

/-- A writer: what was put. -/
def isW (p : Nat) (xs : List UInt8) : HProp := ex fun v => own p (.cells #[v] 107 (0, 0)) * ownB v xs

theorem isW_iff {u w : World} {F : HProp} {p : Nat} {xs : List UInt8} : Sat u w (isW p xs * F) ↔ ∃ v, Sat u w (own p (.cells #[v] 107 (0, 0)) * (ownB v xs * F)) := by
  unfold isW
  rw [Sat.ex_iff]
  constructor <;> (rintro ⟨v, h⟩; exact ⟨v, by rw [star_assoc] at *; exact h⟩)

theorem isW_new {u w : World} {F : HProp} (h : Sat u w F) : Sat u (w.alloc (.cells #[.slice none 0 0] 107)) (isW w.heap.size [] * F) :=
  isW_iff.2 ⟨.slice none 0 0, by simpa [ownB] using (Sat.row_nil (h.alloc _)).s2⟩

set_option maxHeartbeats 400000 in
theorem raw_any (u w : World) (F : HProp) (p : Nat) (xs ys : List UInt8) (b : Value) (hs : Sat u w (isW p xs * F)) (hb : BytesAt w b ys) (hsz : xs.length + ys.length ≤ 1000000000) :
    Calls Tryz.prog 83 #[.pointer (some ⟨p, 0, none⟩), b] w fun e w' => e = .returned (.tuple #[]) ∧ Sat u w' (isW p (xs ++ ys) * F) := by
  obtain ⟨v, h0⟩ := isW_iff.1 hs
  obtain ⟨i0, hi, hz0, hz1, hz2⟩ := info_parts info_u8
  have c0 : w.cell? ⟨p, 0, none⟩ = some v := h0.cell 0
  have h1 : Sat u w (ownRow 5 1 v xs.length (xs.map B) * _) := h0.s2
  have hb' : RowAt w b ys.length (ys.map B) := hb
  go_enter Tryz.func83, Tryz.ntmps83
  go_wp2_with (at_builtin; refine wpList_append_sl rfl _ _ 34 rfl i0 (.int .u8 0) Tryz.underlying34 hi hz0 hz1 hz2 rfl (by decide) rfl rfl h1 hb' (by simp) (B_one ys) (by omega) ?_; intro a' c' w1 h2 hx; clear hx; have h3 := h2.s2; have c1 := h3.cell 0; have f1 := h3.free 0)
  go_end0
  exact ⟨rfl, isW_iff.2 ⟨_, by simpa [ownB] using h3.setCell 0 (.slice a' (xs.length + ys.length) c')⟩⟩

/-- A new row of one byte, as a composite literal lays it. -/
theorem byteLit_at (w : World) (c : Int) (h0 : 0 ≤ c) (h1 : c < 256) (t : TypeId) : BytesAt (w.alloc (.cells #[.int .u8 c] t)) (.slice (some ⟨w.heap.size, 0, none⟩) 1 1) (be 1 c.toNat) := by
  refine .inr ⟨⟨w.heap.size, 0, none⟩, 1, rfl, Nat.le_refl _, by decide, fun j u hu => ?_⟩
  rw [addr_add, World.cell?_alloc_new]
  have e : B (UInt8.ofNat c.toNat) = .int .u8 c := by
    have : (UInt8.ofNat c.toNat).toNat = c.toNat := by simp; omega
    rw [B, this, Int.toNat_of_nonneg h0]
  have e2 : (be 1 c.toNat).map B = [.int .u8 c] := congrArg (fun x => [x]) e
  rw [e2] at hu
  simpa using hu

set_option maxHeartbeats 400000 in
theorem byte_any (u w : World) (F : HProp) (p : Nat) (xs : List UInt8) (n : Int) (h0 : 0 ≤ n) (h1 : n < 256) (hs : Sat u w (isW p xs * F)) (hsz : xs.length + 1 ≤ 1000000000) :
    Calls Tryz.prog 80 #[.pointer (some ⟨p, 0, none⟩), .int .u8 n] w fun e w' => e = .returned (.tuple #[]) ∧ Sat u w' (isW p (xs ++ be 1 n.toNat) * F) := by
  have h2 := (hs.alloc (.cells #[.int .u8 n] 5)).right
  have hb := byteLit_at w n h0 h1 5
  go_enter Tryz.func80, Tryz.ntmps80
  go_wp2_with fail
  refine (raw_any u _ F p xs _ _ h2 hb (by simpa using hsz)).mono ?_
  rintro e w' ⟨rfl, h3⟩
  go_wp2
  go_end0
  exact ⟨rfl, h3⟩

theorem be_two (xs : List UInt8) (k : Nat) (m n : Int) (h0 : 0 ≤ n) (hm : m = ((256 ^ k : Nat) : Int)) : xs ++ be k (n / m).toNat ++ be k (n % m).toNat = xs ++ be (k + k) n.toNat := by
  obtain ⟨n, rfl⟩ := Int.eq_ofNat_of_zero_le h0
  subst hm
  rw [List.append_assoc, be_halves, Int.toNat_natCast, ← Int.natCast_ediv, ← Int.natCast_emod, Int.toNat_natCast, Int.toNat_natCast]

set_option maxHeartbeats 400000 in
theorem short_any (u w : World) (F : HProp) (p : Nat) (xs : List UInt8) (n : Int) (h0 : 0 ≤ n) (h1 : n < 65536) (hs : Sat u w (isW p xs * F)) (hsz : xs.length + 2 ≤ 1000000000) :
    Calls Tryz.prog 117 #[.pointer (some ⟨p, 0, none⟩), .int .u16 n] w fun e w' => e = .returned (.tuple #[]) ∧ Sat u w' (isW p (xs ++ be 2 n.toNat) * F) := by
  go_enter Tryz.func117, Tryz.ntmps117
  go_wp2_with fail
  refine (byte_any u _ F p xs _ (by omega) (by omega) hs (by omega)).mono ?_
  rintro e w1 ⟨rfl, h2⟩
  go_wp2_with fail
  refine (byte_any u _ F p _ _ (by omega) (by omega) h2 (by simp; omega)).mono ?_
  rintro e w2 ⟨rfl, h3⟩
  rw [be_two xs 1 256 n h0 rfl] at h3
  go_wp2
  go_end0
  exact ⟨rfl, h3⟩

theorem wrap_u16 (n : Int) : IntKind.u16.wrap n = n % 65536 := rfl
theorem wrap_u32 (n : Int) : IntKind.u32.wrap n = n % 4294967296 := rfl

set_option maxHeartbeats 400000 in
theorem word_any (u w : World) (F : HProp) (p : Nat) (xs : List UInt8) (n : Int) (h0 : 0 ≤ n) (h1 : n < 4294967296) (hs : Sat u w (isW p xs * F)) (hsz : xs.length + 4 ≤ 1000000000) :
    Calls Tryz.prog 82 #[.pointer (some ⟨p, 0, none⟩), .int .u32 n] w fun e w' => e = .returned (.tuple #[]) ∧ Sat u w' (isW p (xs ++ be 4 n.toNat) * F) := by
  go_enter Tryz.func82, Tryz.ntmps82
  go_wp2_with fail
  refine (short_any u _ F p xs _ (by omega) (by omega) hs (by omega)).mono ?_
  rintro e w1 ⟨rfl, h2⟩
  go_wp2_with fail
  rw [wrap_u16]
  refine (short_any u _ F p _ _ (by omega) (by omega) h2 (by simp; omega)).mono ?_
  rintro e w2 ⟨rfl, h3⟩
  rw [be_two xs 2 65536 n h0 rfl] at h3
  go_wp2
  go_end0
  exact ⟨rfl, h3⟩

set_option maxHeartbeats 400000 in
theorem long_any (u w : World) (F : HProp) (p : Nat) (xs : List UInt8) (n : Int) (h0 : 0 ≤ n) (h1 : n < 18446744073709551616) (hs : Sat u w (isW p xs * F)) (hsz : xs.length + 8 ≤ 1000000000) :
    Calls Tryz.prog 81 #[.pointer (some ⟨p, 0, none⟩), .int .u64 n] w fun e w' => e = .returned (.tuple #[]) ∧ Sat u w' (isW p (xs ++ be 8 n.toNat) * F) := by
  go_enter Tryz.func81, Tryz.ntmps81
  go_wp2_with fail
  refine (word_any u _ F p xs _ (by omega) (by omega) hs (by omega)).mono ?_
  rintro e w1 ⟨rfl, h2⟩
  go_wp2_with fail
  refine (word_any u _ F p _ _ (by omega) (by omega) h2 (by simp; omega)).mono ?_
  rintro e w2 ⟨rfl, h3⟩
  rw [be_two xs 4 4294967296 n h0 rfl] at h3
  go_wp2
  go_end0
  exact ⟨rfl, h3⟩

end Go.Proofs.YtlfmkiclaijokaaGreatDoor
