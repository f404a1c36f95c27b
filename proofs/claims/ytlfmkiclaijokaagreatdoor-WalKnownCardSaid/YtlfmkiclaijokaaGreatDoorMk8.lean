/- strings.Compare, strings.HasPrefix. (After the kit's templates of these.) -/
import Derived.Test.YtlfmkiclaijokaaGreatDoorMk3
import Derived.Test.YtlfmkiclaijokaaGreatDoorMk2
import Derived.Test.YtlfmkiclaijokaaGreatDoorProg
import Derived.Lib.Strings
import Derived.Lib.Slices
import Derived.Lib.Walk
import Derived.Lib.Bytealg
import Derived.WalkKit
namespace Go.Proofs.YtlfmkiclaijokaaGreatDoor
open Go.RowKit
set_option linter.unusedVariables false

theorem cmp_lt : ∀ a b : Bs, decide (Lib.compareBytes a b < 0) = ltN a b
  | [], [] => rfl
  | [], _ :: _ => rfl
  | _ :: _, [] => rfl
  | a :: l, b :: m => by
    unfold Lib.compareBytes ltN
    by_cases c : a < b
    · rw [if_pos c, if_pos c]; rfl
    · rw [if_neg c, if_neg c]
      by_cases d : b < a
      · rw [if_pos d, if_pos d]; rfl
      · rw [if_neg d, if_neg d]
        exact cmp_lt l m

theorem cmp_eq0 : ∀ a b : Bs, (Lib.compareBytes a b == 0) = (a == b)
  | [], [] => rfl
  | [], _ :: _ => rfl
  | _ :: _, [] => rfl
  | a :: l, b :: m => by
    unfold Lib.compareBytes
    by_cases c : a < b
    · rw [if_pos c]
      have : a ≠ b := fun e => by subst e; simp at c
      simp [this]
    · rw [if_neg c]
      by_cases d : b < a
      · rw [if_pos d]
        have : a ≠ b := fun e => by subst e; simp at d
        simp [this]
      · rw [if_neg d, cmp_eq0 l m, u8_tri c d]
        simp

theorem cmp_in (a b : Bs) : Lib.compareBytes a b = -1 ∨ Lib.compareBytes a b = 0 ∨ Lib.compareBytes a b = 1 := by
  induction a generalizing b with
  | nil => cases b <;> simp [Lib.compareBytes]
  | cons x a ih =>
    cases b with
    | nil => simp [Lib.compareBytes]
    | cons y b =>
      unfold Lib.compareBytes
      split
      · simp
      · split
        · simp
        · exact ih b

set_option maxHeartbeats 1000000 in
set_option maxRecDepth 100000 in
theorem cmpString_any (a b : ByteArray) (w : World) :
    Calls Tryz.prog 120 #[.string a, .string b] w fun e w' => e = .returned (.int .i64 (Lib.compareBytes a.data.toList b.data.toList)) ∧ w = w' := by
  go_enter Tryz.func120, Tryz.ntmps120
  go_wp2
  rw [run_callFunc_extern Tryz.func137 (by kernel_rfl) (by kernel_rfl) (by kernel_rfl) (e := Extern.BytealgCompare.compare) (by kernel_rfl), Lib.run_compareString]
  simp only [Result.andThen]
  rw [Oper.upon_value]
  go_wp2
  go_ret
  exact ⟨rfl, rfl⟩

theorem scmp_any (a b : Bs) (w : World) :
    Calls Tryz.prog 91 #[.string (str a), .string (str b)] w fun e w' => e = .returned (.int .i64 (Lib.compareBytes a b)) ∧ w = w' := by
  go_enter Tryz.func91, Tryz.ntmps91
  go_wp2_with fail
  refine (cmpString_any (str a) (str b) _).mono ?_
  rintro e w' ⟨rfl, rfl⟩
  rw [show (str a).data.toList = a from rfl, show (str b).data.toList = b from rfl]
  dsimp only
  go_wp2
  go_ret
  exact ⟨rfl, rfl⟩

set_option maxHeartbeats 1000000 in
theorem hasPrefixL_any (s p : ByteArray) (w : World) :
    Calls Tryz.prog 115 #[.string s, .string p] w fun e w' => e = .returned (.bool (Lib.hasPrefix s.data.toList p.data.toList)) ∧ w = w' := by
  rw [← Lib.hasPrefix_of_take, ← Lib.size_eq, ← Lib.size_eq]
  go_enter Tryz.func115, Tryz.ntmps115
  go_wp2
  · rename_i h
    go_ret
    refine ⟨?_, rfl⟩
    show Ending.returned (Value.bool ((s.extract 0 p.size).toList == p.toList)) = _
    rw [Lib.extract_toList, Lib.toList_data]
    simp [h]
  · rename_i h
    go_ret
    refine ⟨?_, rfl⟩
    show Ending.returned (Value.bool false) = _
    simp [h]

theorem hasPrefix_any (s p : Bs) (w : World) :
    Calls Tryz.prog 73 #[.string (str s), .string (str p)] w fun e w' => e = .returned (.bool (p.isPrefixOf s)) ∧ w = w' := by
  go_enter Tryz.func73, Tryz.ntmps73
  go_wp2_with fail
  refine (hasPrefixL_any (str s) (str p) _).mono ?_
  rintro e w' ⟨rfl, rfl⟩
  rw [show (str s).data.toList = s from rfl, show (str p).data.toList = p from rfl]
  dsimp only
  go_wp2
  go_ret
  exact ⟨rfl, rfl⟩
end Go.Proofs.YtlfmkiclaijokaaGreatDoor
