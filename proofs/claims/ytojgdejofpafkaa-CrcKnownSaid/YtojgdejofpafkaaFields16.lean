/- No writer, no reader. -/
import Derived.Test.YtojgdejofpafkaaFields15
namespace Go.Proofs.Ytojgdejofpafkaa
open Go.RowKit
set_option linter.unusedVariables false

theorem bad_nil (w : World) : Calls Try.prog 36 #[.pointer none] w fun e w' => e = .returned (.bool true) ∧ w = w' := by
  go_enter Try.func36, Try.ntmps36
  go_wp2
  go_ret
  exact ⟨rfl, rfl⟩

theorem left_nil (w : World) : Calls Try.prog 34 #[.pointer none] w fun e w' => e = .returned (.int .i64 0) ∧ w = w' := by
  go_enter Try.func34, Try.ntmps34
  go_wp2_with (go_at_call 36; refine (bad_nil _).mono ?_; rintro e w' ⟨rfl, rfl⟩)
  go_ret
  exact ⟨rfl, rfl⟩

theorem stands_nil (w : World) (n : Int) : Calls Try.prog 48 #[.pointer none, .int .i64 n] w fun e w' => e = .returned (.bool false) ∧ w = w' := by
  go_enter Try.func48, Try.ntmps48
  go_wp2_with (go_at_call 36; refine (bad_nil _).mono ?_; rintro e w' ⟨rfl, rfl⟩)
  go_ret
  exact ⟨rfl, rfl⟩

theorem rbyte_nil (w : World) : Calls Try.prog 39 #[.pointer none] w fun e w' => e = .returned (.int .u8 0) ∧ w = w' := by
  go_enter Try.func39, Try.ntmps39
  go_wp2_with (go_at_call 48; refine (stands_nil _ _).mono ?_; rintro e w' ⟨rfl, rfl⟩)
  go_ret
  exact ⟨rfl, rfl⟩

theorem rshort_nil (w : World) : Calls Try.prog 40 #[.pointer none] w fun e w' => e = .returned (.int .u16 0) ∧ w = w' := by
  go_enter Try.func40, Try.ntmps40
  go_wp2_with (go_at_call 48; refine (stands_nil _ _).mono ?_; rintro e w' ⟨rfl, rfl⟩)
  go_ret
  exact ⟨rfl, rfl⟩

theorem rword_nil (w : World) : Calls Try.prog 41 #[.pointer none] w fun e w' => e = .returned (.int .u32 0) ∧ w = w' := by
  go_enter Try.func41, Try.ntmps41
  go_wp2_with (go_at_call 48; refine (stands_nil _ _).mono ?_; rintro e w' ⟨rfl, rfl⟩)
  go_ret
  exact ⟨rfl, rfl⟩

theorem rlong_nil (w : World) : Calls Try.prog 42 #[.pointer none] w fun e w' => e = .returned (.int .u64 0) ∧ w = w' := by
  go_enter Try.func42, Try.ntmps42
  go_wp2_with (go_at_call 48; refine (stands_nil _ _).mono ?_; rintro e w' ⟨rfl, rfl⟩)
  go_ret
  exact ⟨rfl, rfl⟩

theorem rraw_nil (w : World) (n : Int) : Calls Try.prog 38 #[.pointer none, .int .i64 n] w fun e w' => e = .returned (.slice none 0 0) ∧ w = w' := by
  go_enter Try.func38, Try.ntmps38
  go_wp2_with (go_at_call 48; refine (stands_nil _ _).mono ?_; rintro e w' ⟨rfl, rfl⟩)
  go_ret
  exact ⟨rfl, rfl⟩

theorem out_nil (w : World) : Calls Try.prog 24 #[.pointer none] w fun e w' => e = .returned (.slice none 0 0) ∧ w = w' := by
  go_enter Try.func24, Try.ntmps24
  go_wp2
  go_ret
  exact ⟨rfl, rfl⟩

theorem raw_nil (w : World) (v : Value) : Calls Try.prog 37 #[.pointer none, v] w fun e w' => e = .returned (.tuple #[]) ∧ w = w' := by
  go_enter Try.func37, Try.ntmps37
  go_wp2
  go_end0
  exact ⟨rfl, rfl⟩

theorem byte_nil (u w : World) (F : HProp) (n : Int) (hs : Sat u w F) : Calls Try.prog 28 #[.pointer none, .int .u8 n] w fun e w' => e = .returned (.tuple #[]) ∧ Sat u w' F := by
  go_enter Try.func28, Try.ntmps28
  go_wp2_with (go_at_call 37; refine (raw_nil _ _).mono ?_; rintro e w' ⟨rfl, rfl⟩)
  go_end0
  exact ⟨rfl, (hs.alloc _).right⟩

theorem short_nil (u w : World) (F : HProp) (n : Int) (hs : Sat u w F) : Calls Try.prog 27 #[.pointer none, .int .u16 n] w fun e w' => e = .returned (.tuple #[]) ∧ Sat u w' F := by
  go_enter Try.func27, Try.ntmps27
  go_wp2_with fail
  refine (byte_nil u _ F _ hs).mono ?_
  rintro e w1 ⟨rfl, h1⟩
  go_wp2_with fail
  refine (byte_nil u _ F _ h1).mono ?_
  rintro e w2 ⟨rfl, h2⟩
  go_wp2
  go_end0
  exact ⟨rfl, h2⟩

theorem word_nil (u w : World) (F : HProp) (n : Int) (hs : Sat u w F) : Calls Try.prog 26 #[.pointer none, .int .u32 n] w fun e w' => e = .returned (.tuple #[]) ∧ Sat u w' F := by
  go_enter Try.func26, Try.ntmps26
  go_wp2_with fail
  refine (short_nil u _ F _ hs).mono ?_
  rintro e w1 ⟨rfl, h1⟩
  go_wp2_with fail
  refine (short_nil u _ F _ h1).mono ?_
  rintro e w2 ⟨rfl, h2⟩
  go_wp2
  go_end0
  exact ⟨rfl, h2⟩

theorem long_nil (u w : World) (F : HProp) (n : Int) (hs : Sat u w F) : Calls Try.prog 25 #[.pointer none, .int .u64 n] w fun e w' => e = .returned (.tuple #[]) ∧ Sat u w' F := by
  go_enter Try.func25, Try.ntmps25
  go_wp2_with fail
  refine (word_nil u _ F _ hs).mono ?_
  rintro e w1 ⟨rfl, h1⟩
  go_wp2_with fail
  refine (word_nil u _ F _ h1).mono ?_
  rintro e w2 ⟨rfl, h2⟩
  go_wp2
  go_end0
  exact ⟨rfl, h2⟩

/-- What keeps all that stands keeps what we know. -/
theorem Sat.through {u w w' : World} {F : HProp} (h : Sat u w F) (h' : Sat w w' (allro w)) : Sat u w' F :=
  h.ext h'.os h'.tape h'.output fun k hk => by
    obtain ⟨_, _, _, r, rfl, hw⟩ := h'
    have e : w.heap[k]? = some w.heap[k] := by simp
    rw [e]
    exact hw k false _ (by simp [e])

/-- A part of a slice of pieces. -/
theorem PcsAt.part {w : World} {b o n c : Nat} {ps : List Pc} (h : PcsAt w (some ⟨b, o, none⟩) n c ps) (lo m c' : Nat) (hm : lo + m ≤ n) (h1 : m ≤ c') (h2 : c' ≤ 9223372036854775807) :
    PcsAt w (some ⟨b, o + lo * 3, none⟩) m c' ((ps.drop lo).take m) := by
  have hl := h.len
  refine ⟨by simp; omega, h1, h2, fun x hx => h.ok x (List.mem_of_mem_drop (List.mem_of_mem_take hx)), ?_⟩
  by_cases hm0 : m = 0
  · exact .inl hm0
  · rcases h.at_ with h0 | ⟨b', o', ha, hc⟩
    · omega
    · cases ha
      refine .inr ⟨b, o + lo * 3, rfl, fun j x hx => ?_⟩
      rw [List.getElem?_take] at hx
      split at hx
      · rw [List.getElem?_drop] at hx
        have := hc (lo + j) x hx
        rw [Nat.add_mul, ← Nat.add_assoc] at this
        exact this
      · cases hx
end Go.Proofs.Ytojgdejofpafkaa
