/- The reference's Place. -/
import Derived.Test.YtojgdejofpafkaaFields6
import Derived.Lib.Strings
namespace Go.Proofs.Ytojgdejofpafkaa
open Go.RowKit

/-- A place in all: k bytes stand ahead of it; none: it has fallen. -/
def isP (p : Nat) (all : List UInt8) (st : Option Nat) : HProp :=
  ex fun k : Nat => own p (.cells #[.string (str all), .int .i64 k, .bool st.isNone] 58 (0, 0)) * fact (∀ j, st = some j → k = j ∧ j ≤ all.length)

theorem isP_iff {u w : World} {F : HProp} {p : Nat} {all : List UInt8} {st : Option Nat} : Sat u w (isP p all st * F) ↔
    ∃ k : Nat, (∀ j, st = some j → k = j ∧ j ≤ all.length) ∧ Sat u w (own p (.cells #[.string (str all), .int .i64 k, .bool st.isNone] 58 (0, 0)) * F) := by
  unfold isP
  rw [Sat.ex_iff]
  constructor
  · rintro ⟨k, h⟩
    have h' : Sat u w (fact (∀ j, st = some j → k = j ∧ j ≤ all.length) * (own p (.cells #[.string (str all), .int .i64 k, .bool st.isNone] 58 (0, 0)) * F)) := h.eq (by ac_rfl)
    exact ⟨k, Sat.fact_iff.1 h'⟩
  · rintro ⟨k, h⟩
    exact ⟨k, (Sat.fact_iff.2 h).eq (by ac_rfl)⟩

/-- What a place answers that is asked for n bytes. -/
def GotNext (u : World) (F : HProp) (p : Nat) (all : List UInt8) (st : Option Nat) (n : Int) (e : Ending) (w' : World) : Prop :=
  (∃ k : Nat, st = some k ∧ 0 ≤ n ∧ k + n ≤ all.length ∧ e = .returned (.tuple #[.string (str ((all.drop k).take n.toNat)), .bool true]) ∧ Sat u w' (isP p all (some (k + n.toNat)) * F)) ∨
  ((∀ k : Nat, st = some k → n < 0 ∨ all.length < k + n) ∧ e = .returned (.tuple #[.string ByteArray.empty, .bool false]) ∧ Sat u w' (isP p all none * F))

set_option maxHeartbeats 1000000 in
theorem next_none (u w : World) (F : HProp) (p : Nat) (all : List UInt8) (n : Int) (hs : Sat u w (isP p all none * F)) :
    Calls Try.prog 32 #[.pointer (some ⟨p, 0, none⟩), .int .i64 n] w (GotNext u F p all none n) := by
  obtain ⟨k, _, h0⟩ := isP_iff.1 hs
  have c0 : w.cell? ⟨p, 0, none⟩ = some (.string (str all)) := h0.cell 0
  have c1 : w.cell? ⟨p, 1, none⟩ = some (.int .i64 k) := h0.cell 1
  have c2 : w.cell? ⟨p, 2, none⟩ = some (.bool true) := h0.cell 2
  have f2 := h0.free 2
  go_enter Try.func32, Try.ntmps32
  go_wp2
  go_quiet (fail)
  go_wp2
  go_ret2
  exact .inr ⟨by simp, rfl, isP_iff.2 ⟨k, by simp, by simpa using (h0.drewN nq).setCell 2 (.bool true)⟩⟩

set_option maxHeartbeats 1000000 in
theorem next_neg (u w : World) (F : HProp) (p : Nat) (all : List UInt8) (j : Nat) (n : Int) (hn : n < 0) (hs : Sat u w (isP p all (some j) * F)) :
    Calls Try.prog 32 #[.pointer (some ⟨p, 0, none⟩), .int .i64 n] w (GotNext u F p all (some j) n) := by
  obtain ⟨k, _, h0⟩ := isP_iff.1 hs
  have c0 : w.cell? ⟨p, 0, none⟩ = some (.string (str all)) := h0.cell 0
  have c1 : w.cell? ⟨p, 1, none⟩ = some (.int .i64 k) := h0.cell 1
  have c2 : w.cell? ⟨p, 2, none⟩ = some (.bool false) := h0.cell 2
  have f2 := h0.free 2
  have hd : decide (n < 0) = true := by simpa using hn
  go_enter Try.func32, Try.ntmps32
  go_wp2
  go_quiet (fail)
  go_wp2
  go_ret2
  exact .inr ⟨fun _ _ => .inl hn, rfl, isP_iff.2 ⟨k, by simp, by simpa using (h0.drewN nq).setCell 2 (.bool true)⟩⟩

set_option maxHeartbeats 1000000 in
theorem next_far (u w : World) (F : HProp) (p : Nat) (all : List UInt8) (j : Nat) (n : Int) (hn : 0 ≤ n) (hf : all.length < j + n) (hsz : all.length ≤ 1000000000) (hs : Sat u w (isP p all (some j) * F)) :
    Calls Try.prog 32 #[.pointer (some ⟨p, 0, none⟩), .int .i64 n] w (GotNext u F p all (some j) n) := by
  obtain ⟨k, hk, h0⟩ := isP_iff.1 hs
  obtain ⟨rfl, hj⟩ := hk j rfl
  have c0 : w.cell? ⟨p, 0, none⟩ = some (.string (str all)) := h0.cell 0
  have c1 : w.cell? ⟨p, 1, none⟩ = some (.int .i64 k) := h0.cell 1
  have c2 : w.cell? ⟨p, 2, none⟩ = some (.bool false) := h0.cell 2
  have f2 := h0.free 2
  have hd : decide (n < 0) = false := by simpa using hn
  have hw : IntKind.i64.wrap ((all.length : Int) - k) = (all.length : Int) - k := IntWalk.i64_in _ (by omega)
  have hgt : ((all.length : Int) - k) < n := by omega
  go_enter Try.func32, Try.ntmps32
  go_wp2
  go_quiet (fail)
  clear hw
  go_wp2
  go_ret2
  exact .inr ⟨fun k' e => by cases e; exact .inr hf, rfl, isP_iff.2 ⟨k, by simp, by simpa using (h0.drewN nq).setCell 2 (.bool true)⟩⟩

theorem str_part (all : List UInt8) (k n : Nat) : (str all).extract k (k + n) = str ((all.drop k).take n) := by
  have h := Lib.extract_data (str all) k (k + n)
  rw [str_data, Nat.add_sub_cancel_left] at h
  rw [← str_of ((str all).extract k (k + n)), h]

set_option maxHeartbeats 1000000 in
theorem next_ok (u w : World) (F : HProp) (p : Nat) (all : List UInt8) (j : Nat) (n : Nat) (hf : j + n ≤ all.length) (hsz : all.length ≤ 1000000000) (hs : Sat u w (isP p all (some j) * F)) :
    Calls Try.prog 32 #[.pointer (some ⟨p, 0, none⟩), .int .i64 n] w (GotNext u F p all (some j) n) := by
  obtain ⟨k, hk, h0⟩ := isP_iff.1 hs
  obtain ⟨rfl, hj⟩ := hk j rfl
  have c0 : w.cell? ⟨p, 0, none⟩ = some (.string (str all)) := h0.cell 0
  have c1 : w.cell? ⟨p, 1, none⟩ = some (.int .i64 k) := h0.cell 1
  have c2 : w.cell? ⟨p, 2, none⟩ = some (.bool false) := h0.cell 2
  have f1 := h0.free 1
  have hd : decide ((n : Int) < 0) = false := by simp
  have hw : IntKind.i64.wrap ((all.length : Int) - k) = (all.length : Int) - k := IntWalk.i64_in _ (by omega)
  have hgt : ¬ ((all.length : Int) - k) < (n : Int) := by omega
  go_enter Try.func32, Try.ntmps32
  go_wp2
  go_quiet (fail)
  clear hw hgt hd
  go_wp2
  have h1 := (h0.drewN nq).setCell 1 (.int .i64 ((k : Int) + n))
  generalize (w.drewN nq).setCell ⟨p, 1, none⟩ (.int .i64 ((k : Int) + n)) = w2 at h1 ⊢
  have d0 : w2.cell? ⟨p, 0, none⟩ = some (.string (str all)) := h1.cell 0
  have d1 : w2.cell? ⟨p, 1, none⟩ = some (.int .i64 ((k : Int) + n)) := h1.cell 1
  have hw : IntKind.i64.wrap (k : Int) = k := IntWalk.i64_in _ (by omega)
  have z1 : (k : Int) ≤ (k : Int) + n := by omega
  have z2 : (k : Int) + n ≤ (str all).size := by simp; omega
  have z3 : (0 : Int) ≤ (k : Int) := by omega
  have z4 : (0 : Int) ≤ (k : Int) + n := by omega
  go_quiet (fail)
  go_wp2
  go_ret2
  refine .inl ⟨k, rfl, by omega, by omega, ?_, isP_iff.2 ⟨k + n, by intro j e; cases e; exact ⟨rfl, hf⟩, by simpa using h1.drewN _⟩⟩
  rw [Int.toNat_natCast, ← str_part]
  simp [Array.getD]

theorem next_any (u w : World) (F : HProp) (p : Nat) (all : List UInt8) (st : Option Nat) (n : Int) (hsz : all.length ≤ 1000000000) (hs : Sat u w (isP p all st * F)) :
    Calls Try.prog 32 #[.pointer (some ⟨p, 0, none⟩), .int .i64 n] w (GotNext u F p all st n) := by
  cases st with
  | none => exact next_none u w F p all n hs
  | some j =>
    by_cases hn : n < 0
    · exact next_neg u w F p all j n hn hs
    · obtain ⟨n, rfl⟩ := Int.eq_ofNat_of_zero_le (show 0 ≤ n by omega)
      by_cases hf : j + n ≤ all.length
      · exact next_ok u w F p all j n hf hsz hs
      · exact next_far u w F p all j n (by omega) (by omega) hsz hs

/-- How many bytes are left of a place, or of a reader. -/
def leftOf (all : List UInt8) : Option Nat → Nat
  | none => 0
  | some k => all.length - k

set_option maxHeartbeats 400000 in
theorem pleft_any (u w : World) (F : HProp) (p : Nat) (all : List UInt8) (st : Option Nat) (hsz : all.length ≤ 1000000000) (hs : Sat u w (isP p all st * F)) :
    Calls Try.prog 35 #[.pointer (some ⟨p, 0, none⟩)] w fun e w' => e = .returned (.int .i64 (leftOf all st)) ∧ ∃ m, w' = w.drewN m := by
  obtain ⟨k, hk, h0⟩ := isP_iff.1 hs
  have c0 : w.cell? ⟨p, 0, none⟩ = some (.string (str all)) := h0.cell 0
  have c1 : w.cell? ⟨p, 1, none⟩ = some (.int .i64 k) := h0.cell 1
  have c2 : w.cell? ⟨p, 2, none⟩ = some (.bool st.isNone) := h0.cell 2
  cases st with
  | none =>
    simp only [Option.isNone_none] at c2
    go_enter Try.func35, Try.ntmps35
    go_wp2
    go_ret
    exact ⟨rfl, 0, rfl⟩
  | some j =>
    obtain ⟨rfl, hj⟩ := hk j rfl
    have hw : IntKind.i64.wrap ((all.length : Int) - k) = (all.length : Int) - k := IntWalk.i64_in _ (by omega)
    simp only [Option.isNone_some] at c2
    go_enter Try.func35, Try.ntmps35
    go_wp2
    go_quiet (fail)
    go_wp2
    go_ret
    refine ⟨?_, _, rfl⟩
    simp [Array.getD, leftOf]
    omega

theorem rleft_any (u w : World) (F : HProp) (p : Nat) (all : List UInt8) (st : Option Nat) (hsz : all.length ≤ 1000000000) (hs : Sat u w (isR p all st * F)) :
    Calls Try.prog 34 #[.pointer (some ⟨p, 0, none⟩)] w fun e w' => e = .returned (.int .i64 (leftOf all st)) ∧ ∃ m, w' = w.drewN m := by
  obtain ⟨a, c, hc0, hc1, _, _, _⟩ := isR_cells hs
  have hk := (isR_iff.1 hs).1
  cases st with
  | none => exact (left_bad w p hc1).mono fun e w' ⟨h1, h2⟩ => ⟨h1, 0, h2.symm⟩
  | some k => exact left_ok w p k _ c a (hk k rfl) hsz hc0 hc1

theorem rbad_any (u w : World) (F : HProp) (p : Nat) (all : List UInt8) (st : Option Nat) (hs : Sat u w (isR p all st * F)) :
    Calls Try.prog 36 #[.pointer (some ⟨p, 0, none⟩)] w fun e w' => e = .returned (.bool st.isNone) ∧ w = w' := by
  obtain ⟨a, c, hc0, hc1, _, _, _⟩ := isR_cells hs
  cases st with
  | none => exact bad_yes w p hc1
  | some k => exact bad_no w p k (by omega) hc1
end Go.Proofs.Ytojgdejofpafkaa
