/- The walk of FieldsWriter. -/
import Derived.Test.YtojgdejofpafkaaFields10
namespace Go.Proofs.Ytojgdejofpafkaa
open Go.RowKit

/-- The bytes of pieces. -/
def pbs (ps : List Pc) : List UInt8 := ps.flatMap fun x => pb x.1 x.2.1 x.2.2

theorem pbs_snoc (ps : List Pc) (j : Nat) (x : Pc) (h : ps[j]? = some x) : pbs (ps.take (j + 1)) = pbs (ps.take j) ++ pb x.1 x.2.1 x.2.2 := by
  obtain ⟨hj, rfl⟩ := List.getElem?_eq_some_iff.1 h
  unfold pbs
  rw [List.take_succ_eq_append_getElem hj, List.flatMap_append]
  simp

theorem pb_len (k n : Int) (s : ByteArray) : (pb k n s).length ≤ 8 + s.size := by
  unfold pb
  split
  · show s.data.toList.length ≤ _
    have : s.data.toList.length = s.size := Array.length_toList
    omega
  · rw [be_length]
    unfold wd
    repeat' split
    all_goals omega

/-- What few says of the first pieces. -/
theorem few_bound {ps : List Pc} (h : fewB ps = true) (j : Nat) : ps.length ≤ 60 ∧ (pbs (ps.take j)).length ≤ 8 * 60 + 2000 ∧ ∀ x ∈ ps, x.2.2.size ≤ 2000 := by
  simp only [fewB, Bool.and_eq_true, decide_eq_true_eq] at h
  obtain ⟨h1, h2⟩ := h
  rw [List.take_of_length_le h1] at h2
  have key : ∀ l : List Pc, cnt l ≤ 2000 → (∀ x ∈ l, x.2.2.size ≤ 2000) ∧ (pbs l).length ≤ 8 * l.length + cnt l := by
    intro l
    induction l with
    | nil => simp [pbs]
    | cons x l ih =>
      intro hc
      simp only [cnt, List.map_cons, List.sum_cons] at hc
      have := ih (by simp only [cnt]; omega)
      have hp := pb_len x.1 x.2.1 x.2.2
      refine ⟨?_, ?_⟩
      · intro y hy
        rcases List.mem_cons.1 hy with rfl | hy
        · omega
        · exact this.1 y hy
      · simp only [pbs, List.flatMap_cons, List.length_append, List.length_cons, cnt, List.map_cons, List.sum_cons] at *
        omega
  have hsub : cnt (ps.take j) ≤ cnt ps := by
    conv => rhs; rw [← List.take_append_drop j ps]
    simp only [cnt, List.map_append, List.sum_append]
    omega
  have h3 := (key (ps.take j) (by omega)).2
  simp only [List.length_take] at h3
  exact ⟨h1, by omega, (key ps h2).1⟩

set_option maxHeartbeats 2000000 in
theorem writer_walk (w : World) (a : Option Addr) (n c : Nat) (ps : List Pc) (h : PcsAt w a n c ps) :
    Calls Try.prog 9 #[.slice a n c] w fun e w' => e = .returned (.bool true) ∧ Sat w w' (allro w) := by
  have hs := sat_allro w
  have hl : ∀ w', Sat w w' (allro w) → PcsAt w' a n c ps := fun w' h' => h.below h'.below
  cases hf : fewB ps with
  | false =>
    have hfw := few_any w a n c ps h
    rw [hf] at hfw
    clear hf
    have HF := Lib.hid hfw
    have HL := Lib.hid hl
    clear hfw hl h
    go_enter Try.func9, Try.ntmps9
    go_wp2_with fail
    refine HF.out.mono ?_
    rintro e w1 ⟨rfl, rfl⟩
    dsimp only
    go_wp2_with fail
    refine (works3 w w _ hs).mono ?_
    rintro e w1 ⟨rfl, h1⟩
    go_wp2
    go_ret
    exact ⟨rfl, h1⟩
  | true =>
    have hfw := few_any w a n c ps h
    rw [hf] at hfw
    have HB := Lib.hid (few_bound hf)
    have hn60 : n ≤ 60 := by rw [h.len]; exact (few_bound hf 0).1
    clear hf
    have HF := Lib.hid hfw
    have HL := Lib.hid hl
    clear hfw hl h
    have h1 := isW_new hs
    go_enter Try.func9, Try.ntmps9
    go_wp2_with fail
    refine HF.out.mono ?_
    rintro e w1 ⟨rfl, rfl⟩
    dsimp only
    go_wp2
    go_loopw [4, 5] (fun t i wr => ∃ j : Nat, j ≤ n ∧ i = .int .i64 j ∧ t = .string (str (pbs (ps.take j))) ∧ Sat w wr (isW w.heap.size (pbs (ps.take j)) * allro w)) (fun _ i _ => n - (intOf i).toNat)
    case atStart => exact ⟨0, Nat.zero_le _, rfl, rfl, h1⟩
    case round =>
      obtain ⟨j, hj, rfl, rfl, h2⟩ := hrel
      by_cases hlt : j < n
      · obtain ⟨b, o, k, m, s, rfl, hx, hok, c0, c1, c2⟩ := (HL.out wr h2.right).get hlt
        have hB := HB.out j
        have hss : s.size ≤ 2000 := hB.2.2 _ (List.mem_of_getElem? hx)
        have hbl := hB.2.1
        have HS := Lib.hid (pbs_snoc ps j _ hx)
        have hpl := pb_len k m s
        obtain ⟨k0, k1, m0, m1, _⟩ := hok
        simp only at k0 k1 m0 m1
        clear hB
        go_wp2_with fail
        refine (put_any w wr _ _ _ k m s k0 k1 h2 (by omega)).mono ?_
        rintro e w1 ⟨rfl, h3⟩
        obtain ⟨b', o', k', m', s', hbo, hx', _, d0, d1, d2⟩ := (HL.out w1 h3.right).get hlt
        cases hbo
        cases hx.symm.trans hx'
        clear c0 c1 c2 hx'
        dsimp only
        go_wp2_with fail
        refine (bytes_any w w1 _ k m s k0 k1 h3).mono ?_
        rintro e w2 ⟨rfl, h4⟩
        clear h3 d0 d1 d2
        dsimp only
        go_wp2_with fail
        rw [← str_append, ← HS.out]
        rw [← HS.out] at h4
        have hX := (HB.out (j + 1)).2.1
        refine (out_any w w2 _ _ _ h4 (by omega)).mono ?_
        rintro e w3 ⟨a3, c3, rfl, h5⟩
        dsimp only
        clear h4 HS hpl hbl hss
        generalize hXq : pbs (ps.take (j + 1)) = X at hX h5 ⊢
        have HX := Lib.hid hXq
        clear hXq
        go_wp2_with (refine wpList_toString rfl 22 9 5 _ rfl rfl h5.bytes Try.underlying22 Try.underlying5 Try.underlying9 ?_)
        have h6 : Sat w w3 (scrV 5 a3 X.length * _) := h5.scrV_of
        clear h5
        go_loopw [7] (fun i wr => ∃ q : Nat, q ≤ X.length ∧ i = .int .i64 q ∧ Sat w wr (scrV 5 a3 X.length * (isW w.heap.size X * allro w))) (fun i _ => X.length - (intOf i).toNat)
        case atStart => exact ⟨0, Nat.zero_le _, rfl, h6⟩
        case round =>
          obtain ⟨q, hq, rfl, h7⟩ := hrel
          by_cases hlq : q < X.length
          · obtain ⟨g, rfl, h8⟩ := h7.scrV_get hlq
            obtain ⟨x, hx8, hf⟩ := h8.scr_get hlq
            have h9 := h8.scr_set q (bits .xor .u8 x 255)
            go_wp2
            go_roundw
            case rel => exact ⟨q + 1, hlq, by go_num, Sat.scrV_iff.2 (.inr ⟨g, rfl, h9⟩)⟩
            case measure => simp [intOf]; omega
          · go_wp2
            go_roundw
            case rel => exact ⟨j + 1, hlt, by go_num, by rw [HX.out], by rw [HX.out]; exact h7.right⟩
            case measure => simp [intOf]; omega
      · have hje : j = n := by omega
        subst hje
        have hX := (HB.out j).2.1
        generalize pbs (ps.take j) = X at hX h2 ⊢
        go_wp2_with fail
        refine (out_any w wr _ _ _ h2 (by omega)).mono ?_
        rintro e w3 ⟨a3, c3, rfl, h5⟩
        dsimp only
        go_wp2_with (first
          | (refine wpList_toString rfl 22 9 5 _ rfl rfl h5.bytes Try.underlying22 Try.underlying5 Try.underlying9 ?_)
          | (go_at_call 21; refine (works3 w w3 _ h5.right.right).mono ?_; rintro e w4 ⟨rfl, h6⟩))
        go_ret
        exact ⟨rfl, h6⟩
end Go.Proofs.Ytojgdejofpafkaa
