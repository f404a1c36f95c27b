/- few, works: what the statements of layer 3 begin and end with. -/
import Derived.Test.YtojgdejofpafkaaFields8
namespace Go.Proofs.Ytojgdejofpafkaa
open Go.RowKit

set_option maxHeartbeats 2000000 in
theorem works3 (u w : World) (F : HProp) (hs : Sat u w F) :
    Calls Try.prog 21 #[] w fun e w' => e = .returned (.bool true) ∧ Sat u w' F := by
  have h1 := isW_new hs
  go_enter Try.func21, Try.ntmps21
  go_wp2_with fail
  refine (byte_any u _ _ _ [] _ (by decide) (by decide) h1 (by decide)).mono ?_
  rintro e w1 ⟨rfl, h2⟩
  dsimp only
  clear h1
  go_wp2_with fail
  refine (short_any u _ _ _ _ _ (by decide) (by decide) h2 (by decide)).mono ?_
  rintro e w2 ⟨rfl, h3⟩
  dsimp only
  clear h2
  go_wp2_with fail
  refine (word_any u _ _ _ _ _ (by decide) (by decide) h3 (by decide)).mono ?_
  rintro e w3 ⟨rfl, h4⟩
  dsimp only
  clear h3
  have h5 := h4.alloc (.cells #[.int .u8 7] 5)
  have b5 := byteLit_at w3 7 (by decide) (by decide) 5
  go_wp2_with fail
  refine (raw_any u _ _ _ _ _ _ h5.right b5 (by decide)).mono ?_
  rintro e w4 ⟨rfl, h6⟩
  dsimp only
  clear h4 h5 b5
  have h7 := h6.alloc (.cells #[.int .u8 1, .int .u8 2, .int .u8 3] 5)
  have b7 : BytesAt (w4.alloc (.cells #[.int .u8 1, .int .u8 2, .int .u8 3] 5)) (.slice (some ⟨w4.heap.size, 0, none⟩) 3 3) [1, 2, 3] := by
    refine .mk' rfl (Nat.le_refl _) (by decide) fun j y hy => ?_
    rw [World.cell?_alloc_new, Nat.zero_add]
    match j, hy with
    | 0, hy => cases hy; rfl
    | 1, hy => cases hy; rfl
    | 2, hy => cases hy; rfl
    | j + 3, hy => simp at hy
  go_wp2_with fail
  refine (open_any u _ _ _ _ h7.right b7 (by decide)).mono ?_
  rintro e w5 ⟨q, rfl, h8⟩
  dsimp only
  clear h6 h7 b7
  go_wp2_with fail
  refine (rshort_any u _ _ q [1, 2, 3] (some 0) h8 (by decide)).mono ?_
  intro e w6 hg
  obtain ⟨rfl, h9⟩ := got_num hg 2 rfl
  clear hg h8
  rw [show num (bs [1, 2, 3] (some 0) 2) = 258 from by decide]
  rw [show rd [1, 2, 3] (some 0) 2 = some 2 from by decide] at h9
  dsimp only
  go_wp2_with fail
  refine (rleft_any u w6 _ q [1, 2, 3] (some 2) (by decide) h9).mono ?_
  rintro e w7 ⟨rfl, m, rfl⟩
  rw [show leftOf [1, 2, 3] (some 2) = 1 from by decide]
  replace h9 := h9.drewN m
  generalize w6.drewN m = w7 at h9 ⊢
  dsimp only
  go_wp2_with fail
  refine (rshort_any u w7 _ q [1, 2, 3] (some 2) h9 (by decide)).mono ?_
  intro e w8 hg
  obtain ⟨rfl, h10⟩ := got_num hg 2 rfl
  clear hg h9
  rw [show num (bs [1, 2, 3] (some 2) 2) = 0 from by decide]
  rw [show rd [1, 2, 3] (some 2) 2 = none from by decide] at h10
  dsimp only
  go_wp2_with fail
  refine (rleft_any u w8 _ q [1, 2, 3] none (by decide) h10).mono ?_
  rintro e w9 ⟨rfl, m, rfl⟩
  rw [show leftOf [1, 2, 3] none = 0 from by decide]
  replace h10 := h10.drewN m
  generalize w8.drewN m = w9 at h10 ⊢
  dsimp only
  go_wp2_with fail
  refine (rbyte_any u w9 _ q [1, 2, 3] none h10 (by decide)).mono ?_
  intro e w10 hg
  obtain ⟨rfl, h11⟩ := got_num hg 1 rfl
  clear hg h10
  rw [show num (bs [1, 2, 3] none 1) = 0 from by decide]
  rw [show rd [1, 2, 3] none 1 = none from by decide] at h11
  rw [show ([] ++ be 1 (Int.toNat 1) ++ be 2 (Int.toNat 2) ++ be 4 (Int.toNat 255) ++ be 1 (Int.toNat 7)) = [1, 0, 2, 0, 0, 0, 255, 7] from by decide] at h11
  dsimp only
  go_wp2_with fail
  refine (out_any u w10 _ _ _ h11.s2 (by decide)).mono ?_
  rintro e w11 ⟨a, c, rfl, h12⟩
  dsimp only
  clear h11
  have h13 := h12.s3
  have hS := str_toList [1, 0, 2, 0, 0, 0, 255, 7]
  go_wp2_with (first | (refine wpList_toString rfl 22 9 5 _ rfl rfl h12.bytes Try.underlying22 Try.underlying5 Try.underlying9 ?_) | (go_at_call 36; refine (rbad_any u w11 _ q [1, 2, 3] none h13).mono ?_; rintro e w12 ⟨rfl, rfl⟩))
  go_ret
  exact ⟨rfl, h12.right.right.right⟩
end Go.Proofs.Ytojgdejofpafkaa
