/- A piece is read. -/
import Derived.Test.YtojgdejofpafkaaFields7
namespace Go.Proofs.Ytojgdejofpafkaa
open Go.RowKit

/-- How many bytes are asked for. -/
def ask (k n : Int) : Int := if wd k = 0 then n else wd k
/-- Where the reader is behind that. -/
def rd (all : List UInt8) (st : Option Nat) (m : Int) : Option Nat :=
  match st with
  | some j => if 0 ≤ m ∧ j + m ≤ all.length then some (j + m.toNat) else none
  | none => none
/-- What it was given. -/
def bs (all : List UInt8) (st : Option Nat) (m : Int) : List UInt8 :=
  match st with
  | some j => if 0 ≤ m ∧ j + m ≤ all.length then (all.drop j).take m.toNat else []
  | none => []

theorem got_num {u w' : World} {F : HProp} {p : Nat} {all : List UInt8} {st : Option Nat} {m : Nat} {kd : IntKind} {e : Ending} (h : Got u F p all st m kd e w') (mi : Int) (hm : (m : Int) = mi) :
    e = .returned (.int kd (num (bs all st mi) : Nat)) ∧ Sat u w' (isR p all (rd all st mi) * F) := by
  subst hm
  rcases h with ⟨k, rfl, hk, rfl, h⟩ | ⟨hk, rfl, h⟩
  · have hc : 0 ≤ (m : Int) ∧ (k : Int) + m ≤ all.length := ⟨by omega, by omega⟩
    simp only [bs, rd, if_pos hc]
    exact ⟨rfl, h⟩
  · cases st with
    | none => exact ⟨rfl, h⟩
    | some k =>
      have := hk k rfl
      have hc : ¬ (0 ≤ (m : Int) ∧ (k : Int) + m ≤ all.length) := by omega
      simp only [bs, rd, if_neg hc]
      exact ⟨rfl, h⟩

theorem got_raw {u w' : World} {F : HProp} {p : Nat} {all : List UInt8} {st : Option Nat} {n : Int} {e : Ending} (h : GotRaw u F p all st n e w') :
    ∃ a c, e = .returned (.slice a (bs all st n).length c) ∧ Sat u w' (ownB (.slice a (bs all st n).length c) (bs all st n) * (isR p all (rd all st n) * F)) := by
  rcases h with ⟨k, a, c, rfl, h0, hk, rfl, h⟩ | ⟨hk, rfl, h⟩
  · have hc : 0 ≤ n ∧ (k : Int) + n ≤ all.length := ⟨h0, hk⟩
    have hl : ((all.drop k).take n.toNat).length = n.toNat := by simp; omega
    simp only [bs, rd, if_pos hc, hl]
    exact ⟨a, c, rfl, h⟩
  · have e1 : bs all st n = [] := by
      cases st with
      | none => rfl
      | some k =>
        have := hk k rfl
        have hc : ¬ (0 ≤ n ∧ (k : Int) + n ≤ all.length) := by omega
        simp only [bs, if_neg hc]
    have e2 : rd all st n = none := by
      cases st with
      | none => rfl
      | some k =>
        have := hk k rfl
        have hc : ¬ (0 ≤ n ∧ (k : Int) + n ≤ all.length) := by omega
        simp only [rd, if_neg hc]
    rw [e1, e2]
    exact ⟨none, 0, rfl, h.row_nil⟩

theorem bs_lt (all : List UInt8) (st : Option Nat) (m : Nat) : num (bs all st m) < 256 ^ m := by
  have hp : 0 < 256 ^ m := Nat.pow_pos (by decide)
  cases st with
  | none => simpa [bs, num] using hp
  | some j =>
    simp only [bs]
    split
    · exact num_take_lt _ _
    · simpa [num] using hp

theorem bs_len (all : List UInt8) (st : Option Nat) (m : Int) : (bs all st m).length ≤ all.length := by
  cases st with
  | none => simp [bs]
  | some j =>
    simp only [bs]
    split
    · simp; omega
    · simp

/-- The number that is read. -/
def rnum (all : List UInt8) (st : Option Nat) (k n : Int) : Int := if wd k = 0 then 0 else wrap64 (num (bs all st (ask k n)))
/-- The row that is read. -/
def rrow (all : List UInt8) (st : Option Nat) (k n : Int) : List UInt8 := if wd k = 0 then bs all st (ask k n) else []

set_option maxHeartbeats 1000000 in
theorem read1 (u w : World) (F : HProp) (p : Nat) (all : List UInt8) (st : Option Nat) (k n : Int) (s : ByteArray) (h0 : 0 ≤ k) (h1 : k < 256) (hwd : wd k = 1) (hsz : all.length ≤ 1000000000) (hs : Sat u w (isR p all st * F)) :
    Calls Try.prog 33 #[.agg #[.int .u8 k, .int .i64 n, .string s], .pointer (some ⟨p, 0, none⟩)] w fun e w' =>
      e = .returned (.agg #[.int .u8 k, .int .i64 (rnum all st k n), .string (str (rrow all st k n))]) ∧ Sat u w' (isR p all (rd all st (ask k n)) * F) := by
  have e1 : rnum all st k n = (num (bs all st 1) : Nat) := by
    have hb : num (bs all st 1) < 256 := bs_lt all st 1
    simp only [rnum, ask, hwd]
    rw [if_neg (by decide), if_neg (by decide)]
    show wrap64 ((num (bs all st 1) : Nat) : Int) = _
    unfold wrap64
    omega
  have e2 : rrow all st k n = [] := by simp [rrow, hwd]
  have e3 : ask k n = 1 := by simp [ask, hwd]
  rw [e1, e2, e3]
  clear e1 e2 e3
  have hs1 := hs.alloc (.cells #[.int .u8 k, .int .i64 n, .string s] 40)
  have hs2 := hs1.alloc (.cells #[.int .u8 0, .int .i64 0, .string ⟨#[]⟩] 40)
  have hs3 := hs2.alloc (.cells #[.int .u8 k, .int .i64 0, .string ⟨#[]⟩] 40)
  simp only [World.size_alloc] at hs3
  have hn0 : num (bs all st 1) < 256 := bs_lt all st 1
  generalize hN : num (bs all st 1) = N at hn0 ⊢
  have HN := Lib.hid hN
  clear hN
  go_enter Try.func33, Try.ntmps33
  go_wp2_with fail
  refine (wide_any u _ _ k n s h0 h1 hs3).mono ?_
  rintro e w1 ⟨rfl, h2⟩
  clear hs hs1 hs2 hs3
  go_wp2_with fail
  refine (rbyte_any u w1 _ p all st h2.s4 hsz).mono ?_
  intro e w2 hg
  obtain ⟨rfl, h3⟩ := got_num hg 1 rfl
  rw [HN.out]
  clear hg h2 HN
  have h4 := h3.s2
  have c0 := h4.cell 0
  have c1 := h4.cell 1
  have c2 := h4.cell 2
  have f1 := h4.free 1
  have d0 := h4.s3.cell 0
  have d1 := h4.s3.cell 1
  have d2 := h4.s3.cell 2
  have e0 := h4.s3.free 0
  have e1 := h4.s3.free 1
  have e2 := h4.s3.free 2
  dsimp only
  go_wp2
  have h6 := (((h4.setCell 1 (.int .i64 (N : Int))).s3.setCell 0 (.int .u8 k)).setCell 1 (.int .i64 (N : Int))).setCell 2 (.string ⟨#[]⟩)
  have g0 := h6.cell 0
  have g1 := h6.cell 1
  have g2 := h6.cell 2
  refine bodyPost_ret (v := .agg #[.int .u8 k, .int .i64 (N : Int), .string ⟨#[]⟩]) ?_ rfl ⟨rfl, h6.s3.dr.dr.dr⟩
  simp [results, Try.results33, go_sem, g0, g1, g2]

set_option maxHeartbeats 1000000 in
theorem read2 (u w : World) (F : HProp) (p : Nat) (all : List UInt8) (st : Option Nat) (k n : Int) (s : ByteArray) (h0 : 0 ≤ k) (h1 : k < 256) (hwd : wd k = 2) (hsz : all.length ≤ 1000000000) (hs : Sat u w (isR p all st * F)) :
    Calls Try.prog 33 #[.agg #[.int .u8 k, .int .i64 n, .string s], .pointer (some ⟨p, 0, none⟩)] w fun e w' =>
      e = .returned (.agg #[.int .u8 k, .int .i64 (rnum all st k n), .string (str (rrow all st k n))]) ∧ Sat u w' (isR p all (rd all st (ask k n)) * F) := by
  have e1 : rnum all st k n = (num (bs all st 2) : Nat) := by
    have hb : num (bs all st 2) < 65536 := bs_lt all st 2
    simp only [rnum, ask, hwd]
    rw [if_neg (by decide), if_neg (by decide)]
    show wrap64 ((num (bs all st 2) : Nat) : Int) = _
    unfold wrap64
    omega
  have e2 : rrow all st k n = [] := by simp [rrow, hwd]
  have e3 : ask k n = 2 := by simp [ask, hwd]
  rw [e1, e2, e3]
  clear e1 e2 e3
  have hs1 := hs.alloc (.cells #[.int .u8 k, .int .i64 n, .string s] 40)
  have hs2 := hs1.alloc (.cells #[.int .u8 0, .int .i64 0, .string ⟨#[]⟩] 40)
  have hs3 := hs2.alloc (.cells #[.int .u8 k, .int .i64 0, .string ⟨#[]⟩] 40)
  simp only [World.size_alloc] at hs3
  have hn0 : num (bs all st 2) < 65536 := bs_lt all st 2
  generalize hN : num (bs all st 2) = N at hn0 ⊢
  have HN := Lib.hid hN
  clear hN
  go_enter Try.func33, Try.ntmps33
  go_wp2_with fail
  refine (wide_any u _ _ k n s h0 h1 hs3).mono ?_
  rintro e w1 ⟨rfl, h2⟩
  clear hs hs1 hs2 hs3
  go_wp2_with fail
  refine (rshort_any u w1 _ p all st h2.s4 hsz).mono ?_
  intro e w2 hg
  obtain ⟨rfl, h3⟩ := got_num hg 2 rfl
  rw [HN.out]
  clear hg h2 HN
  have h4 := h3.s2
  have c0 := h4.cell 0
  have c1 := h4.cell 1
  have c2 := h4.cell 2
  have f1 := h4.free 1
  have d0 := h4.s3.cell 0
  have d1 := h4.s3.cell 1
  have d2 := h4.s3.cell 2
  have e0 := h4.s3.free 0
  have e1 := h4.s3.free 1
  have e2 := h4.s3.free 2
  dsimp only
  go_wp2
  have h6 := (((h4.setCell 1 (.int .i64 (N : Int))).s3.setCell 0 (.int .u8 k)).setCell 1 (.int .i64 (N : Int))).setCell 2 (.string ⟨#[]⟩)
  have g0 := h6.cell 0
  have g1 := h6.cell 1
  have g2 := h6.cell 2
  refine bodyPost_ret (v := .agg #[.int .u8 k, .int .i64 (N : Int), .string ⟨#[]⟩]) ?_ rfl ⟨rfl, h6.s3.dr.dr.dr⟩
  simp [results, Try.results33, go_sem, g0, g1, g2]

set_option maxHeartbeats 1000000 in
theorem read4 (u w : World) (F : HProp) (p : Nat) (all : List UInt8) (st : Option Nat) (k n : Int) (s : ByteArray) (h0 : 0 ≤ k) (h1 : k < 256) (hwd : wd k = 4) (hsz : all.length ≤ 1000000000) (hs : Sat u w (isR p all st * F)) :
    Calls Try.prog 33 #[.agg #[.int .u8 k, .int .i64 n, .string s], .pointer (some ⟨p, 0, none⟩)] w fun e w' =>
      e = .returned (.agg #[.int .u8 k, .int .i64 (rnum all st k n), .string (str (rrow all st k n))]) ∧ Sat u w' (isR p all (rd all st (ask k n)) * F) := by
  have e1 : rnum all st k n = (num (bs all st 4) : Nat) := by
    have hb : num (bs all st 4) < 4294967296 := bs_lt all st 4
    simp only [rnum, ask, hwd]
    rw [if_neg (by decide), if_neg (by decide)]
    show wrap64 ((num (bs all st 4) : Nat) : Int) = _
    unfold wrap64
    omega
  have e2 : rrow all st k n = [] := by simp [rrow, hwd]
  have e3 : ask k n = 4 := by simp [ask, hwd]
  rw [e1, e2, e3]
  clear e1 e2 e3
  have hs1 := hs.alloc (.cells #[.int .u8 k, .int .i64 n, .string s] 40)
  have hs2 := hs1.alloc (.cells #[.int .u8 0, .int .i64 0, .string ⟨#[]⟩] 40)
  have hs3 := hs2.alloc (.cells #[.int .u8 k, .int .i64 0, .string ⟨#[]⟩] 40)
  simp only [World.size_alloc] at hs3
  have hn0 : num (bs all st 4) < 4294967296 := bs_lt all st 4
  generalize hN : num (bs all st 4) = N at hn0 ⊢
  have HN := Lib.hid hN
  clear hN
  go_enter Try.func33, Try.ntmps33
  go_wp2_with fail
  refine (wide_any u _ _ k n s h0 h1 hs3).mono ?_
  rintro e w1 ⟨rfl, h2⟩
  clear hs hs1 hs2 hs3
  go_wp2_with fail
  refine (rword_any u w1 _ p all st h2.s4 hsz).mono ?_
  intro e w2 hg
  obtain ⟨rfl, h3⟩ := got_num hg 4 rfl
  rw [HN.out]
  clear hg h2 HN
  have h4 := h3.s2
  have c0 := h4.cell 0
  have c1 := h4.cell 1
  have c2 := h4.cell 2
  have f1 := h4.free 1
  have d0 := h4.s3.cell 0
  have d1 := h4.s3.cell 1
  have d2 := h4.s3.cell 2
  have e0 := h4.s3.free 0
  have e1 := h4.s3.free 1
  have e2 := h4.s3.free 2
  dsimp only
  go_wp2
  have h6 := (((h4.setCell 1 (.int .i64 (N : Int))).s3.setCell 0 (.int .u8 k)).setCell 1 (.int .i64 (N : Int))).setCell 2 (.string ⟨#[]⟩)
  have g0 := h6.cell 0
  have g1 := h6.cell 1
  have g2 := h6.cell 2
  refine bodyPost_ret (v := .agg #[.int .u8 k, .int .i64 (N : Int), .string ⟨#[]⟩]) ?_ rfl ⟨rfl, h6.s3.dr.dr.dr⟩
  simp [results, Try.results33, go_sem, g0, g1, g2]

set_option maxHeartbeats 1000000 in
theorem read8 (u w : World) (F : HProp) (p : Nat) (all : List UInt8) (st : Option Nat) (k n : Int) (s : ByteArray) (h0 : 0 ≤ k) (h1 : k < 256) (hwd : wd k = 8) (hsz : all.length ≤ 1000000000) (hs : Sat u w (isR p all st * F)) :
    Calls Try.prog 33 #[.agg #[.int .u8 k, .int .i64 n, .string s], .pointer (some ⟨p, 0, none⟩)] w fun e w' =>
      e = .returned (.agg #[.int .u8 k, .int .i64 (rnum all st k n), .string (str (rrow all st k n))]) ∧ Sat u w' (isR p all (rd all st (ask k n)) * F) := by
  have e1 : rnum all st k n = wrap64 ((num (bs all st 8) : Nat) : Int) := by
    simp only [rnum, ask, hwd]
    rw [if_neg (by decide), if_neg (by decide)]
    rfl
  have e2 : rrow all st k n = [] := by simp [rrow, hwd]
  have e3 : ask k n = 8 := by simp [ask, hwd]
  rw [e1, e2, e3]
  clear e1 e2 e3
  have hs1 := hs.alloc (.cells #[.int .u8 k, .int .i64 n, .string s] 40)
  have hs2 := hs1.alloc (.cells #[.int .u8 0, .int .i64 0, .string ⟨#[]⟩] 40)
  have hs3 := hs2.alloc (.cells #[.int .u8 k, .int .i64 0, .string ⟨#[]⟩] 40)
  simp only [World.size_alloc] at hs3
  have hn0 : num (bs all st 8) < 18446744073709551616 := bs_lt all st 8
  generalize hN : num (bs all st 8) = N at hn0 ⊢
  have HN := Lib.hid hN
  clear hN
  go_enter Try.func33, Try.ntmps33
  go_wp2_with fail
  refine (wide_any u _ _ k n s h0 h1 hs3).mono ?_
  rintro e w1 ⟨rfl, h2⟩
  clear hs hs1 hs2 hs3
  go_wp2_with fail
  refine (rlong_any u w1 _ p all st h2.s4 hsz).mono ?_
  intro e w2 hg
  obtain ⟨rfl, h3⟩ := got_num hg 8 rfl
  rw [HN.out]
  clear hg h2 HN
  have h4 := h3.s2
  have c0 := h4.cell 0
  have c1 := h4.cell 1
  have c2 := h4.cell 2
  have f1 := h4.free 1
  have d0 := h4.s3.cell 0
  have d1 := h4.s3.cell 1
  have d2 := h4.s3.cell 2
  have e0 := h4.s3.free 0
  have e1 := h4.s3.free 1
  have e2 := h4.s3.free 2
  dsimp only
  go_wp2
  have h6 := (((h4.setCell 1 (.int .i64 (wrap64 (N : Int)))).s3.setCell 0 (.int .u8 k)).setCell 1 (.int .i64 (wrap64 (N : Int)))).setCell 2 (.string ⟨#[]⟩)
  have g0 := h6.cell 0
  have g1 := h6.cell 1
  have g2 := h6.cell 2
  refine bodyPost_ret (v := .agg #[.int .u8 k, .int .i64 (wrap64 (N : Int)), .string ⟨#[]⟩]) ?_ rfl ⟨rfl, h6.s3.dr.dr.dr⟩
  simp [results, Try.results33, go_sem, g0, g1, g2]

set_option maxHeartbeats 1000000 in
theorem read0 (u w : World) (F : HProp) (p : Nat) (all : List UInt8) (st : Option Nat) (k n : Int) (s : ByteArray) (h0 : 0 ≤ k) (h1 : k < 256) (hwd : wd k = 0) (hsz : all.length ≤ 1000000000) (hs : Sat u w (isR p all st * F)) :
    Calls Try.prog 33 #[.agg #[.int .u8 k, .int .i64 n, .string s], .pointer (some ⟨p, 0, none⟩)] w fun e w' =>
      e = .returned (.agg #[.int .u8 k, .int .i64 (rnum all st k n), .string (str (rrow all st k n))]) ∧ Sat u w' (isR p all (rd all st (ask k n)) * F) := by
  have e3 : ask k n = n := by simp [ask, hwd]
  have e1 : rnum all st k n = 0 := by simp [rnum, hwd]
  have e2 : rrow all st k n = bs all st n := by simp [rrow, hwd, e3]
  rw [e1, e2, e3]
  clear e1 e2 e3
  have hs1 := hs.alloc (.cells #[.int .u8 k, .int .i64 n, .string s] 40)
  have hs2 := hs1.alloc (.cells #[.int .u8 0, .int .i64 0, .string ⟨#[]⟩] 40)
  have hs3 := hs2.alloc (.cells #[.int .u8 k, .int .i64 0, .string ⟨#[]⟩] 40)
  simp only [World.size_alloc] at hs3
  go_enter Try.func33, Try.ntmps33
  go_wp2_with fail
  refine (wide_any u _ _ k n s h0 h1 hs3).mono ?_
  rintro e w1 ⟨rfl, h2⟩
  have x1 := h2.s3.cell 1
  clear hs hs1 hs2 hs3
  go_wp2_with fail
  refine (rraw_any u w1 _ p all st n h2.s4 hsz).mono ?_
  intro e w2 hg
  obtain ⟨a, c, rfl, h3⟩ := got_raw hg
  clear hg h2 x1
  have hl : (bs all st n).length ≤ 1000000000 := Nat.le_trans (bs_len all st n) hsz
  generalize hlq : bs all st n = l at h3 hl ⊢
  have HL := Lib.hid hlq
  clear hlq
  have h4 := h3.s3
  have c0 := h4.cell 0
  have c1 := h4.cell 1
  have c2 := h4.cell 2
  have f2 := h4.free 2
  dsimp only
  go_wp2_with (refine wpList_toString rfl 22 9 5 _ rfl rfl h3.bytes Try.underlying22 Try.underlying5 Try.underlying9 ?_)
  have h5 := h4.setCell 2 (.string (str l))
  generalize w2.setCell ⟨w.heap.size + 1 + 1, 2, none⟩ (.string (str l)) = w3 at h5 ⊢
  have h6 : Sat u w3 (scrV 5 a l.length * _) := h5.s2.scrV_of
  clear h3 h4 h5 c0 c1 c2 f2
  go_loopw [7] (fun i wr => ∃ j : Nat, j ≤ l.length ∧ i = .int .i64 j ∧ Sat u wr (scrV 5 a l.length *
    (own (w.heap.size + 1 + 1) (.cells #[.int .u8 k, .int .i64 0, .string (str l)] 40 (0, 0)) * (isR p all (rd all st n) *
      (own (w.heap.size + 1) (.cells #[.int .u8 0, .int .i64 0, .string ⟨#[]⟩] 40 (0, 0)) * F))))) (fun i _ => l.length - (intOf i).toNat)
  case atStart => exact ⟨0, Nat.zero_le _, rfl, h6.s5.right⟩
  case round =>
    obtain ⟨j, hj, rfl, h7⟩ := hrel
    by_cases hlt : j < l.length
    · obtain ⟨g, rfl, h8⟩ := h7.scrV_get hlt
      obtain ⟨x, hx, hf⟩ := h8.scr_get hlt
      have h9 := h8.scr_set j (bits .xor .u8 x 255)
      go_wp2
      go_roundw
      case rel => exact ⟨j + 1, hlt, by go_num, Sat.scrV_iff.2 (.inr ⟨g, rfl, h9⟩)⟩
      case measure => simp [intOf]; omega
    · have h8 := h7.s2
      have c0 := h8.cell 0
      have c1 := h8.cell 1
      have c2 := h8.cell 2
      have d0 := h8.s4.cell 0
      have d1 := h8.s4.cell 1
      have d2 := h8.s4.cell 2
      have e0 := h8.s4.free 0
      have e1 := h8.s4.free 1
      have e2 := h8.s4.free 2
      go_wp2
      have h9 := ((h8.s4.setCell 0 (.int .u8 k)).setCell 1 (.int .i64 0)).setCell 2 (.string (str l))
      have g0 := h9.cell 0
      have g1 := h9.cell 1
      have g2 := h9.cell 2
      refine bodyPost_ret (v := .agg #[.int .u8 k, .int .i64 0, .string (str l)]) ?_ rfl ⟨by rw [HL.out], h9.s4.dr.dr.dr⟩
      simp [results, Try.results33, go_sem, g0, g1, g2]

theorem read_any (u w : World) (F : HProp) (p : Nat) (all : List UInt8) (st : Option Nat) (k n : Int) (s : ByteArray) (h0 : 0 ≤ k) (h1 : k < 256) (hsz : all.length ≤ 1000000000) (hs : Sat u w (isR p all st * F)) :
    Calls Try.prog 33 #[.agg #[.int .u8 k, .int .i64 n, .string s], .pointer (some ⟨p, 0, none⟩)] w fun e w' =>
      e = .returned (.agg #[.int .u8 k, .int .i64 (rnum all st k n), .string (str (rrow all st k n))]) ∧ Sat u w' (isR p all (rd all st (ask k n)) * F) := by
  have h5 : k % 5 = 0 ∨ k % 5 = 1 ∨ k % 5 = 2 ∨ k % 5 = 3 ∨ k % 5 = 4 := by omega
  rcases h5 with h5 | h5 | h5 | h5 | h5
  · exact read1 u w F p all st k n s h0 h1 (by simp only [wd, h5, if_true]) hsz hs
  · exact read2 u w F p all st k n s h0 h1 (by simp only [wd, h5, if_true, if_false, Int.reduceEq]) hsz hs
  · exact read4 u w F p all st k n s h0 h1 (by simp only [wd, h5, if_true, if_false, Int.reduceEq]) hsz hs
  · exact read8 u w F p all st k n s h0 h1 (by simp only [wd, h5, if_true, if_false, Int.reduceEq]) hsz hs
  · exact read0 u w F p all st k n s h0 h1 (by simp only [wd, h5, if_false, Int.reduceEq]) hsz hs
end Go.Proofs.Ytojgdejofpafkaa
