/- The document's frames and names. The document's log in memory: met, there, Commit, Append. What is framed at the beginning of bytes, as the document reads it. -/
import Derived.Test.YtlfmkiclaijokaaGreatDoorMk32
import Derived.Test.YtlfmkiclaijokaaGreatDoorMk27
import Derived.Test.YtlfmkiclaijokaaGreatDoorMk26
import Derived.Test.YtlfmkiclaijokaaGreatDoorMk33
import Derived.Test.YtlfmkiclaijokaaGreatDoorMk3
import Derived.Test.YtlfmkiclaijokaaGreatDoorMk18
namespace Go.Proofs.YtlfmkiclaijokaaGreatDoor
open Go.RowKit
set_option linter.unusedVariables false

theorem Sat.openB {u w : World} {F : HProp} {v : Value} {xs : List UInt8} (h : Sat u w (ownB v xs * F)) {n : Nat} (hn : xs.length = n) : Sat u w (ownRow 5 1 v n (xs.map B) * F) := hn ▸ h
theorem Sat.closeB {u w : World} {F : HProp} {v : Value} {xs : List UInt8} {n : Nat} (h : Sat u w (ownRow 5 1 v n (xs.map B) * F)) (hn : xs.length = n) : Sat u w (ownB v xs * F) := by
  unfold ownB
  rw [hn]
  exact h
theorem Sat.openAt {u w : World} {F : HProp} {v : Value} {xs : List UInt8} (h : Sat u w (ownB v xs * F)) {n : Nat} (hn : xs.length = n) : RowAt w v n (xs.map B) := hn ▸ Sat.row_at h

section
variable (u w : World) (F : HProp)

set_option maxRecDepth 100000 in
set_option maxHeartbeats 4000000 in
theorem rframed_any (tag : UInt8) (n : Nat) (b : Bs) (hn : n < 9223372036854775808) (hl : b.length ≤ 900000) (hs : Sat u w F) :
    Calls Tryz.prog 46 #[.int .u8 tag.toNat, .int .i64 n, .string (str b)] w fun e w' => ∃ a c, e = .returned (.slice a (frameB tag n b).length c) ∧ Sat u w' (ownB (.slice a (frameB tag n b).length c) (frameB tag n b) * F) := by
  obtain ⟨i0, hi, hz0, hz1, hz2⟩ := info_parts info_u8
  have ht := tag.toNat_lt
  have hw1 : IntKind.u64.wrap (n : Int) = n := by show (n : Int) % 18446744073709551616 = n; omega
  have h1 := hs.alloc (.cells #[.int .u8 tag.toNat] 5)
  have h2 : Sat u (w.alloc (.cells #[.int .u8 tag.toNat] 5)) (ownB (.slice (some ⟨w.heap.size, 0, none⟩) 1 1) [tag] * F) := Sat.row_mk h1 (by simp) (by decide) rfl rfl
  clear hs h1
  go_enter Tryz.func46, Tryz.ntmps46
  go_wp2_with fail
  refine (refBytes8 u _ _ (n : Int) (by omega) (by omega) h2).mono ?_
  rintro e w3 ⟨a3, c3, rfl, h3⟩
  rw [Int.toNat_natCast] at h3
  dsimp only
  clear h2
  have hr3 := h3.openAt (be_length 8 n)
  have h4 := h3.s2.openB (n := 1) rfl
  go_wp2_with (at_builtin; refine wpList_append_sl rfl _ _ 34 rfl i0 (.int .u8 0) Tryz.underlying34 hi hz0 hz1 hz2 rfl (by decide) rfl rfl h4 hr3 (by simp) (B_one _) (by omega) ?_; intro a4 c4 w4 h5 hx; clear hx)
  have h6 : Sat u w4 (ownRow 5 1 (.slice a4 9 c4) 9 (([tag] ++ be 8 n).map B) * F) := by
    rw [List.map_append]
    exact h5.dr
  clear h3 hr3 h4 h5
  refine (refBytes4 u _ _ (b.length : Int) (by omega) (by omega) h6).mono ?_
  rintro e w5 ⟨a5, c5, rfl, h7⟩
  rw [Int.toNat_natCast] at h7
  dsimp only
  clear h6
  have hr7 := h7.openAt (be_length 4 _)
  have h8 := h7.s2
  go_upto_region 4 with (at_builtin; refine wpList_append_sl rfl _ _ 34 rfl i0 (.int .u8 0) Tryz.underlying34 hi hz0 hz1 hz2 rfl (by decide) rfl rfl h8 hr7 (by simp) (B_one _) (by omega) ?_; intro a6 c6 w6 h9 hx; clear hx)
  have h10 : Sat u w6 (ownRow 5 1 (.slice a6 13 c6) 13 (([tag] ++ be 8 n ++ be 4 b.length).map B) * F) := by
    rw [List.map_append]
    exact h9.dr
  clear h7 hr7 h8 h9
  go_upto_region 5 with (at_builtin; refine wpList_append_str rfl _ _ 34 9 rfl i0 Tryz.underlying34 Tryz.underlying9 hi hz0 hz1 hz2 b rfl rfl h10 (by decide) (by omega) ?_; intro a8 c8 w8 h11)
  have hbl : (bodyB tag n b).length = 13 + b.length := bodyB_length tag n b
  have h12 : Sat u w8 (ownB (.slice a8 (13 + b.length) c8) (bodyB tag n b) * F) := Sat.closeB h11 hbl
  clear h10 h11
  go_wp2_with fail
  refine (refSum_any u w8 _ (.slice a8 (13 + b.length) c8) (bodyB tag n b) h12.bytes (by omega) h12 (fun w' h' => h'.bytes)).mono ?_
  rintro e w9 ⟨rfl, h13⟩
  dsimp only
  clear h12
  have hsl := (sumB (bodyB tag n b)).isLt
  have HBL := Lib.hid hbl
  clear hbl
  generalize hS : (sumB (bodyB tag n b)).toNat = S at hsl
  have HS := Lib.hid hS
  unfold w32
  rw [hS]
  clear hS
  go_wp2_with fail
  refine (refBytes4 u _ _ (S : Int) (by omega) (by omega) h13).mono ?_
  rintro e w10 ⟨a10, c10, rfl, h14⟩
  rw [Int.toNat_natCast] at h14
  dsimp only
  clear h13
  have hr14 := h14.openAt (be_length 4 _)
  have h15 := h14.s2.openB HBL.out
  go_wp2_with (at_builtin; refine wpList_append_sl rfl _ _ 34 rfl i0 (.int .u8 0) Tryz.underlying34 hi hz0 hz1 hz2 rfl (by decide) rfl rfl h15 hr14 (by simp) (B_one _) (by omega) ?_; intro a11 c11 w11 h16 hx; clear hx)
  go_ret
  have hfl : (frameB tag n b).length = 13 + b.length + 4 := by rw [frameB_length]; omega
  refine ⟨a11, c11, by rw [hfl]; rfl, ?_⟩
  rw [hfl]
  refine Sat.closeB ?_ hfl
  unfold frameB
  rw [HS.out, List.map_append]
  exact h16.dr

theorem rstate_any (n : Nat) (b : Bs) (hn : n < 9223372036854775808) (hl : b.length ≤ 900000) (hs : Sat u w F) :
    Calls Tryz.prog 23 #[.int .i64 n, .string (str b)] w fun e w' => ∃ a c, e = .returned (.slice a (frameB 75 n b).length c) ∧ Sat u w' (ownB (.slice a (frameB 75 n b).length c) (frameB 75 n b) * F) := by
  go_enter Tryz.func23, Tryz.ntmps23
  go_wp2_with fail
  refine (rframed_any u w F 75 n b hn hl hs).mono ?_
  rintro e w1 ⟨a, c, rfl, h1⟩
  dsimp only
  have H := Lib.hid h1
  clear h1
  go_wp2_with fail
  go_ret
  exact ⟨a, c, rfl, H.out⟩

theorem rrecord_any (n : Nat) (b : Bs) (hn : n < 9223372036854775808) (hl : b.length ≤ 900000) (hs : Sat u w F) :
    Calls Tryz.prog 25 #[.int .i64 n, .string (str b)] w fun e w' => ∃ a c, e = .returned (.slice a (frameB 82 n b).length c) ∧ Sat u w' (ownB (.slice a (frameB 82 n b).length c) (frameB 82 n b) * F) := by
  go_enter Tryz.func25, Tryz.ntmps25
  go_wp2_with fail
  refine (rframed_any u w F 82 n b hn hl hs).mono ?_
  rintro e w1 ⟨a, c, rfl, h1⟩
  dsimp only
  have H := Lib.hid h1
  clear h1
  go_wp2_with fail
  go_ret
  exact ⟨a, c, rfl, H.out⟩

theorem name_digit : ∀ k : Fin 10, (ByteArray.mk #[48, 49, 50, 51, 52, 53, 54, 55, 56, 57]).extract k.val (k.val + 1) = str [UInt8.ofNat (48 + k.val)] := by decide +kernel
theorem decF_one : ∀ g : Fin 10, decF 20 g.val = [UInt8.ofNat (48 + g.val)] := by decide +kernel
theorem decF_two : ∀ g : Fin 100, 10 ≤ g.val → decF 20 g.val = [UInt8.ofNat (48 + g.val / 10)] ++ [UInt8.ofNat (48 + g.val % 10)] := by decide +kernel

def emptyV : Value → Nat
  | .string s => if s.size = 0 then 1 else 0
  | _ => 0

set_option maxHeartbeats 4000000 in
theorem rname_any (g : Nat) (hg : g < 100) : Calls Tryz.prog 96 #[.int .i64 g] w fun e w' => e = .returned (.string (str (nameW g))) ∧ w' = w := by
  go_enter Tryz.func96, Tryz.ntmps96
  go_wp2_with fail
  go_loopw [0, 3] (fun t0 t3 wr => wr = w ∧ ∃ (k : Nat) (x : Bs), t0 = .int .i64 k ∧ t3 = .string (str x) ∧ k < 100 ∧ ((k = g ∧ x = []) ∨ (x ≠ [] ∧ k < 10 ∧ 0 < k ∧ decF 20 g = [UInt8.ofNat (48 + k)] ++ x) ∨ (k = 0 ∧ x ≠ [] ∧ decF 20 g = x)) ∧ x.length ≤ 20) (fun t0 t3 _ => 2 * (intOf t0).toNat + emptyV t3)
  case atStart => exact ⟨rfl, g, [], rfl, rfl, hg, .inl ⟨rfl, rfl⟩, by decide⟩
  case round =>
    obtain ⟨rfl, k, x, rfl, rfl, hk, hcase, hx⟩ := hrel
    have HC := Lib.hid hcase
    clear hcase
    have t1 : (k : Int).tmod 10 = ((k % 10 : Nat) : Int) := by rw [Int.tmod_eq_emod_of_nonneg (by omega)]; omega
    have t2 : (k : Int).tdiv 10 = ((k / 10 : Nat) : Int) := by rw [Int.tdiv_eq_ediv_of_nonneg (by omega)]; omega
    by_cases hdone : k = 0 ∧ x ≠ []
    · obtain ⟨rfl, hne⟩ := hdone
      have e1 : (str x).toList.isEmpty = false := by rw [str_toList]; cases x with | nil => exact absurd rfl hne | cons _ _ => rfl
      have hd : decF 20 g = x := by
        rcases HC.out with ⟨_, h2⟩ | ⟨_, _, h3, _⟩ | ⟨_, _, h3⟩
        · exact absurd h2 hne
        · omega
        · exact h3
      have HD := Lib.hid hd
      have e9 : (ByteArray.mk #[108, 111, 103, 46]) ++ str x = str (logPre ++ x) := (str_append logPre x).symm
      have e8 : ¬ 9223372036854775807 < 4 + x.length := by omega
      clear t1 t2 hd hne
      go_wp2_with fail
      go_ret
      refine ⟨?_, rfl⟩
      unfold nameW
      rw [HD.out]
      rfl
    · have hnew : (UInt8.ofNat (48 + k % 10) :: x).length ≤ 20 ∧ ((k / 10 < 10 ∧ 0 < k / 10 ∧ decF 20 g = [UInt8.ofNat (48 + k / 10)] ++ (UInt8.ofNat (48 + k % 10) :: x)) ∨ (k / 10 = 0 ∧ decF 20 g = UInt8.ofNat (48 + k % 10) :: x)) := by
        rcases HC.out with ⟨rfl, rfl⟩ | ⟨h1, h2, h3, h4⟩ | ⟨h1, h2, _⟩
        · refine ⟨by simp, ?_⟩
          by_cases h10 : k < 10
          · right
            have := decF_one ⟨k, h10⟩
            refine ⟨by omega, ?_⟩
            rw [Nat.mod_eq_of_lt h10]
            exact this
          · left
            exact ⟨by omega, by omega, decF_two ⟨k, hk⟩ (by show 10 ≤ k; omega)⟩
        · have hl : (decF 20 g).length ≤ 19 := by
            have : ∀ g : Fin 100, (decF 20 g.val).length ≤ 19 := by decide +kernel
            exact this ⟨g, hg⟩
          refine ⟨?_, .inr ⟨by omega, ?_⟩⟩
          · rw [h4] at hl
            simp only [List.length_append, List.length_cons, List.length_nil] at hl ⊢
            omega
          · rw [Nat.mod_eq_of_lt h2]
            exact h4
        · exact absurd ⟨h1, h2⟩ hdone
      have HNEW := Lib.hid hnew
      have hk10 : k % 10 < 10 := Nat.mod_lt _ (by decide)
      have e2 : (ByteArray.mk #[48, 49, 50, 51, 52, 53, 54, 55, 56, 57]).extract (k % 10) (k % 10 + 1) = str [UInt8.ofNat (48 + k % 10)] := name_digit ⟨k % 10, hk10⟩
      have e3 : str [UInt8.ofNat (48 + k % 10)] ++ str x = str (UInt8.ofNat (48 + k % 10) :: x) := (str_append _ _).symm
      have e8 : ¬ 9223372036854775807 < 1 + x.length := by omega
      clear hnew
      generalize hr : k % 10 = r at t1 hk10 e2 e3 HNEW
      generalize UInt8.ofNat (48 + r) = c at e2 e3 HNEW
      have z1 : (r : Int) ≤ 10 := by omega
      have z2 : (r : Int) + 1 ≤ 10 := by omega
      have HRR := Lib.hid hr
      clear hr
      by_cases k0 : 0 < k
      · have y1 : (0 : Int) < k := by omega
        clear hdone
        go_wp2_with fail
        have hn := HNEW.out
        refine ⟨⟨trivial, k / 10, c :: x, rfl, rfl, by omega, ?_, hn.1⟩, ?_⟩
        · rcases hn.2 with ⟨a1, a2, a3⟩ | ⟨a1, a2⟩
          · exact .inr (.inl ⟨by simp, a1, a2, a3⟩)
          · exact .inr (.inr ⟨a1, by simp, a2⟩)
        · have e0 : emptyV (.string (str (c :: x))) = 0 := by
            show (if (str (c :: x)).size = 0 then 1 else 0) = 0
            rw [str_size]
            rfl
          rw [e0]
          show 2 * ((k : Int) / 10).toNat + 0 < 2 * (k : Int).toNat + _
          omega
      · have hk0 : k = 0 := by omega
        subst hk0
        have hx0 : x = [] := Classical.byContradiction fun h => hdone ⟨rfl, h⟩
        subst hx0
        have e1 : (str []).toList.isEmpty = true := by rw [str_toList]; rfl
        clear hdone k0
        go_wp2_with fail
        have hn := HNEW.out
        have hr0 : r = 0 := HRR.out.symm
        have e5 : (ByteArray.mk #[48, 49, 50, 51, 52, 53, 54, 55, 56, 57]).extract 0 1 ++ str [] = str [c] := by
          rw [hr0] at e2
          rw [show (1 : Nat) = 0 + 1 from rfl, e2]
          exact e3
        refine ⟨⟨trivial, 0, [c], rfl, congrArg Value.string e5, by omega, ?_, hn.1⟩, ?_⟩
        · rcases hn.2 with ⟨a1, a2, a3⟩ | ⟨a1, a2⟩
          · exact .inr (.inl ⟨by simp, a1, a2, a3⟩)
          · exact .inr (.inr ⟨a1, by simp, a2⟩)
        · have e0 : emptyV (.string (str ([c]))) = 0 := by
            show (if (str ([c])).size = 0 then 1 else 0) = 0
            rw [str_size]
            rfl
          rw [e5, e0]
          have e4 : emptyV (.string (str [])) = 1 := rfl
          rw [e4]
          decide
end
end Go.Proofs.YtlfmkiclaijokaaGreatDoor

namespace Go.Proofs.YtlfmkiclaijokaaGreatDoor
open Go.RowKit
set_option linter.unusedVariables false

def headN (p : Nat) (rv : Value) (W : WalP) : Obj := .cells #[.pointer (some ⟨p, 0, none⟩), .int .i64 W.gen, .string (str W.state), rv, .int .i64 W.sure, .int .i64 W.size, .int .i64 W.broken] 123 (0, 0)

/-- The document's log W at l, of the disk at p. -/
def isN (l p : Nat) (W : WalP) : HProp := fact (OkW W) * ex fun v => own l (headN p v W) * ownS v W.recs

section
variable {u w : World} {F : HProp} {l p : Nat} {W : WalP}

theorem isN_iff : Sat u w (isN l p W * F) ↔ OkW W ∧ ∃ (a : Option Addr) (c : Nat), Sat u w (own l (headN p (.slice a W.recs.length c) W) * (ownS (.slice a W.recs.length c) W.recs * F)) := by
  unfold isN
  constructor
  · intro h
    obtain ⟨h1, h2⟩ := Sat.fact_iff.1 h.as
    obtain ⟨v, hv⟩ := Sat.ex_iff.1 h2
    have h3 := hv.as
    obtain ⟨a, c, rfl, _, _⟩ := RowAt.len (Sat.row_at (show Sat u w (ownRow 9 1 v W.recs.length _ * F) from h3.right))
    exact ⟨h1, a, c, h3⟩
  · rintro ⟨h1, a, c, h3⟩
    exact (Sat.fact_iff.2 ⟨h1, Sat.ex_iff.2 ⟨.slice a W.recs.length c, h3.sa⟩⟩).sa

/-- The cells of one. -/
theorem isN_cells (h : Sat u w (isN l p W * F)) : OkW W ∧ w.cell? ⟨l, 0, none⟩ = some (.pointer (some ⟨p, 0, none⟩)) ∧ w.cell? ⟨l, 1, none⟩ = some (.int .i64 W.gen) ∧ w.cell? ⟨l, 2, none⟩ = some (.string (str W.state)) ∧
    (∃ a c, w.cell? ⟨l, 3, none⟩ = some (.slice a W.recs.length c)) ∧ w.cell? ⟨l, 4, none⟩ = some (.int .i64 W.sure) ∧ w.cell? ⟨l, 5, none⟩ = some (.int .i64 W.size) ∧ w.cell? ⟨l, 6, none⟩ = some (.int .i64 W.broken) := by
  obtain ⟨h1, a, c, h3⟩ := isN_iff.1 h
  exact ⟨h1, h3.cell 0, h3.cell 1, h3.cell 2, ⟨a, c, h3.cell 3⟩, h3.cell 4, h3.cell 5, h3.cell 6⟩
end

section
variable (u w : World) (F : HProp) (l p : Nat) (W : WalP)

theorem nmet_any (e : Int) (h0 : -9223372036854775808 ≤ e) (h1 : e ≤ 9223372036854775807) (hs : Sat u w (isN l p W * F)) :
    Calls Tryz.prog 127 #[.pointer (some ⟨l, 0, none⟩), .int .i64 e] w fun r w' => r = .returned (.int .i64 e) ∧ Sat u w' (isN l p (metW e W) * F) := by
  by_cases he : e = 40
  · subst he
    obtain ⟨ok, a, c, h3⟩ := isN_iff.1 hs
    have c6 := h3.cell 6
    have f6 := h3.free 6
    have h4 := h3.setCell 6 (.int .i64 40)
    have H5 := Lib.hid (isN_iff.2 ⟨(⟨ok.gen, ok.sure, ok.size, ok.many, ok.state, ok.recs, by show (-9223372036854775808 : Int) ≤ 40; decide, by show (40 : Int) ≤ 9223372036854775807; decide⟩ : OkW (metW 40 W)), a, c, h4⟩ : Sat u _ (isN l p (metW 40 W) * F))
    clear hs h3 h4
    go_enter Tryz.func127, Tryz.ntmps127
    go_wp2_with fail
    go_ret
    exact ⟨rfl, H5.out⟩
  · have e2 : metW e W = W := by unfold metW; rw [if_neg he]
    rw [e2]
    have hb : (e == 40) = false := by rw [beq_eq_false_iff_ne]; exact he
    have H := Lib.hid hs
    clear hs e2
    go_enter Tryz.func127, Tryz.ntmps127
    go_wp2_with fail
    go_ret
    exact ⟨rfl, H.out⟩

theorem nthere_any (d : DiskP) (n : Bs) (hl : n.length ≤ 1000000000) (hs : Sat u w (isN l p W * (isM p d * F))) :
    Calls Tryz.prog 128 #[.pointer (some ⟨l, 0, none⟩), .string (str n)] w fun r w' => r = .returned (.bool (decide ((readD d n).2 = 0))) ∧ Sat u w' (isN l p W * (isM p d * F)) := by
  obtain ⟨_, c0, _, _, _, _, _, _⟩ := isN_cells hs
  go_enter Tryz.func128, Tryz.ntmps128
  go_wp2_with fail
  refine (rread_any u w _ p d n hl hs.s2).mono ?_
  rintro e w1 ⟨a, c, rfl, h2⟩
  dsimp only
  have H2 := Lib.hid h2.right.s2
  generalize he : (readD d n).2 = e
  have HE := Lib.hid he
  clear hs c0 h2 he
  go_wp2_with fail
  go_ret
  refine ⟨?_, H2.out⟩
  rw [HE.out]
  by_cases h : e = 0 <;> simp [h]

set_option maxRecDepth 100000 in
set_option maxHeartbeats 2000000 in
theorem ncommit_any (d : DiskP) (hs : Sat u w (isN l p W * (isM p d * F))) :
    Calls Tryz.prog 109 #[.pointer (some ⟨l, 0, none⟩)] w fun e w' => e = .returned (.int .i64 (commitW d W).1) ∧ Sat u w' (isN l p (commitW d W).2.1 * (isM p (commitW d W).2.2 * F)) := by
  have hR : commitW d W = if W.broken ≠ 0 then (W.broken, W, d) else if W.sure = W.recs.length then (0, W, d) else
      if (driesD d (nameW W.gen) (nameW W.gen) wholeL).1 = 0 then (0, { W with sure := W.recs.length }, (driesD d (nameW W.gen) (nameW W.gen) wholeL).2) else ((driesD d (nameW W.gen) (nameW W.gen) wholeL).1, metW (driesD d (nameW W.gen) (nameW W.gen) wholeL).1 W, (driesD d (nameW W.gen) (nameW W.gen) wholeL).2) := rfl
  generalize commitW d W = R at hR ⊢
  have HR := Lib.hid hR
  obtain ⟨ok, k0, k1, _, ⟨a3, c3, k3⟩, k4, _, k6⟩ := isN_cells hs
  have OK := Lib.hid ok
  have hg := ok.gen
  have hsu := ok.sure
  have hmany := ok.many
  clear hR ok
  go_enter Tryz.func109, Tryz.ntmps109
  by_cases hb : W.broken = 0
  case neg =>
    have e := HR.out
    rw [if_pos hb] at e
    have E := Lib.hid e
    have hb2 : (W.broken != 0) = true := by simpa using hb
    have H := Lib.hid hs
    clear hs k0 k1 k3 k4 e
    go_wp2_with fail
    go_ret
    rw [E.out]
    exact ⟨rfl, H.out⟩
  rw [hb] at k6
  have HB := Lib.hid hb
  clear hb
  go_upto_region 3 with fail
  clear k6
  refine wp_region_seq [(0, true), (1, true), (2, true), (3, true), (4, true), (5, true), (6, true), (7, true), (8, true), (9, true)] (fun x => Sat u x (isN l p W * (isM p d * F)) ∧ x.cell? ⟨l, 3, none⟩ = some (.slice a3 W.recs.length c3) ∧ x.cell? ⟨l, 4, none⟩ = some (.int .i64 W.sure)) (by kernel_rfl) (by kernel_rfl) (fun _ _ _ _ _ h => h) ?_
  simp only [pickOps, Array.getD_eq_getD_getElem?, List.getElem?_toArray, List.getElem?_cons_succ, List.getElem?_cons_zero, Option.getD_some]
  have h1 := hs.drew
  have h1c : w.drew.cell? ⟨l, 3, none⟩ = some (.slice a3 W.recs.length c3) ∧ w.drew.cell? ⟨l, 4, none⟩ = some (.int .i64 W.sure) := ⟨k3, k4⟩
  generalize w.drew = w1 at h1 h1c ⊢
  clear hs k0 k1 k3 k4
  repeat (first
    | (refine wpSeq_run (by rfl) ⟨h1, h1c⟩ (fun K hK => ⟨?_, ?_, ?_⟩); rotate_left; (· (intro wS hSw; have d3 := hSw.2.1; have d4 := hSw.2.2; go_simp <;> with_reducible rfl)); simp only [Act.put, List.setIfInBounds_toArray, List.set_cons_zero, List.set_cons_succ]; refine hK _ ?_; clear hK K)
    | (refine wpSeq_skip (by rfl) ⟨h1, h1c⟩ (fun K hK => ?_); simp only [Act.put, List.setIfInBounds_toArray, List.set_cons_zero, List.set_cons_succ]; refine hK _ ?_; clear hK K))
  refine wpSeq_end ?_
  by_cases hq : W.sure = W.recs.length
  · have e := HR.out
    rw [if_neg (by simp [HB.out]), if_pos hq] at e
    have E := Lib.hid e
    have H := Lib.hid h1
    have hq2 : ((W.sure : Int) == (W.recs.length : Int)) = true := by rw [hq]; simp
    clear h1 h1c e
    go_wp2_with fail
    go_ret
    rw [E.out]
    exact ⟨rfl, H.out⟩
  have hq2 : ((W.sure : Int) == (W.recs.length : Int)) = false := by rw [beq_eq_false_iff_ne]; omega
  have e := HR.out
  rw [if_neg (by simp [HB.out]), if_neg hq] at e
  have HR2 := Lib.hid e
  have HQ := Lib.hid hq
  clear e HR hq h1c
  rw [hq2]
  clear hq2
  go_upto_region 5 with fail
  refine wp_region_seq [(0, true), (1, true), (2, true), (3, true), (4, true), (5, true), (6, true), (7, true), (8, true), (9, false), (10, false), (11, false), (12, true)] (fun x => x.cell? ⟨l, 0, none⟩ = some (.pointer (some ⟨p, 0, none⟩)) ∧ x.cell? ⟨l, 1, none⟩ = some (.int .i64 W.gen)) (by kernel_rfl) (by kernel_rfl) (fun _ _ _ _ _ h => h) ?_
  simp only [pickOps, Array.getD_eq_getD_getElem?, List.getElem?_toArray, List.getElem?_cons_succ, List.getElem?_cons_zero, Option.getD_some]
  have h2 := h1.drew
  generalize w1.drew = w2 at h2 ⊢
  clear h1
  obtain ⟨_, k0, k1, _, _, _, _, _⟩ := isN_cells h2
  repeat (first
    | (refine wpSeq_run (by rfl) ⟨k0, k1⟩ (fun K hK => ⟨?_, ?_, ?_⟩); rotate_left; (· (intro wS hSw; have q0 := hSw.1; have q1 := hSw.2; go_simp <;> with_reducible rfl)); simp only [Act.put, List.setIfInBounds_toArray, List.set_cons_zero, List.set_cons_succ]; refine hK _ ?_; clear hK K)
    | (refine wpSeq_skip (by rfl) ⟨k0, k1⟩ (fun K hK => ?_); simp only [Act.put, List.setIfInBounds_toArray, List.set_cons_zero, List.set_cons_succ]; refine hK _ ?_; clear hK K))
  refine wpSeq_act (by rfl) (fun K hK => ?_)
  go_simp
  refine (rname_any w2 W.gen hg).mono ?_
  rintro e w3 ⟨rfl, rfl⟩
  try dsimp only
  try simp only [Act.put, List.setIfInBounds_toArray, List.set_cons_zero, List.set_cons_succ]
  refine hK _ _ (_) ((fun _ h => h)) ⟨k0, k1⟩ ?_
  clear hK K
  refine wpSeq_act (by rfl) (fun K hK => ?_)
  go_simp
  refine (rsync_any u _ _ p d (nameW W.gen) (by have := nameW_len W.gen; omega) h2.s2).mono ?_
  rintro e w3 ⟨rfl, h3⟩
  have hx := dries_err d (nameW W.gen) (nameW W.gen) wholeL whole_err
  obtain ⟨x, hxe⟩ : ∃ x, driesD d (nameW W.gen) (nameW W.gen) wholeL = x := ⟨_, rfl⟩
  rw [hxe] at h3 hx ⊢
  have e2 := HR2.out
  rw [hxe] at e2
  have HR3 := Lib.hid e2
  clear HR2 e2 hxe h2 k0 k1
  have h4 := h3.s2
  obtain ⟨_, k0, k1, _, _, _, _, _⟩ := isN_cells h4
  try dsimp only
  try simp only [Act.put, List.setIfInBounds_toArray, List.set_cons_zero, List.set_cons_succ]
  refine hK _ _ (_) ((fun _ h => h)) ⟨k0, k1⟩ ?_
  clear hK K
  refine wpSeq_act (by rfl) (fun K hK => ?_)
  go_simp
  refine (nmet_any u w3 _ l p W x.1 hx.range.1 hx.range.2 h4).mono ?_
  rintro e w4 ⟨rfl, h5⟩
  have hmg : (metW x.1 W).gen = W.gen := by unfold metW; split <;> rfl
  obtain ⟨ok5, k0, k1, _, ⟨a5, c5, k3⟩, k4, _, _⟩ := isN_cells h5
  rw [hmg] at k1
  try dsimp only
  try simp only [Act.put, List.setIfInBounds_toArray, List.set_cons_zero, List.set_cons_succ]
  refine hK _ _ (_) ((fun _ h => h)) ⟨k0, k1⟩ ?_
  clear hK K
  repeat (first
    | (refine wpSeq_run (by rfl) ⟨k0, k1⟩ (fun K hK => ⟨?_, ?_, ?_⟩); rotate_left; (· (intro wS hSw; go_simp <;> with_reducible rfl)); simp only [Act.put, List.setIfInBounds_toArray, List.set_cons_zero, List.set_cons_succ]; refine hK _ ?_; clear hK K)
    | (refine wpSeq_skip (by rfl) ⟨k0, k1⟩ (fun K hK => ?_); simp only [Act.put, List.setIfInBounds_toArray, List.set_cons_zero, List.set_cons_succ]; refine hK _ ?_; clear hK K))
  refine wpSeq_end ?_
  clear h3 h4 hmg
  by_cases hx0 : x.1 = 0
  · have e := HR3.out
    rw [if_pos hx0] at e
    have E := Lib.hid e
    have hm : metW x.1 W = W := by unfold metW; rw [if_neg (by rw [hx0]; decide)]
    rw [hm] at h5 k3 ok5
    obtain ⟨_, a6, c6, h6⟩ := isN_iff.1 h5
    have c3' := h6.cell 3
    have c4' := h6.cell 4
    have f4' := h6.free 4
    have h7 := h6.setCell 4 (.int .i64 W.recs.length)
    have H := Lib.hid (isN_iff.2 ⟨(⟨ok5.gen, (show W.recs.length ≤ 1000000000 by omega), ok5.size, ok5.many, ok5.state, ok5.recs, ok5.broken0, ok5.broken1⟩ : OkW { W with sure := W.recs.length }), a6, c6, h7⟩ : Sat u _ (isN l p { W with sure := W.recs.length } * _))
    rw [hx0]
    clear k3 k4 k0 k1 h5 h6 h7 hm hx0 e ok5
    go_wp2_with fail
    go_ret
    rw [E.out]
    exact ⟨rfl, H.out⟩
  · have e := HR3.out
    rw [if_neg hx0] at e
    have E := Lib.hid e
    have hx1 : (x.1 == 0) = false := by rw [beq_eq_false_iff_ne]; exact hx0
    have H := Lib.hid h5
    clear k3 k4 k0 k1 h5 hx0 e ok5
    go_wp2_with fail
    go_ret
    rw [E.out]
    exact ⟨rfl, H.out⟩

set_option maxRecDepth 100000 in
set_option maxHeartbeats 4000000 in
theorem nappend_any (d : DiskP) (b : Bs) (hbl : b.length ≤ 900000) (hmany : d.files.length < 1000000) (hrm : W.recs.length < 1000000) (hsz : W.size + 17 + b.length ≤ 1000000000) (hs : Sat u w (isN l p W * (isM p d * F))) :
    Calls Tryz.prog 111 #[.pointer (some ⟨l, 0, none⟩), .string (str b)] w fun e w' => e = .returned (.int .i64 (appendW d W b).1) ∧ Sat u w' (isN l p (appendW d W b).2.1 * (isM p (appendW d W b).2.2 * F)) := by
  have hR : appendW d W b = if W.broken ≠ 0 then (W.broken, W, d) else if 1048576 < b.length then (3, W, d) else
      if (appendD d (nameW W.gen) (frameB 82 (W.recs.length + 1) b)).1 ≠ 0 then ((appendD d (nameW W.gen) (frameB 82 (W.recs.length + 1) b)).1, metW (appendD d (nameW W.gen) (frameB 82 (W.recs.length + 1) b)).1 W, (appendD d (nameW W.gen) (frameB 82 (W.recs.length + 1) b)).2)
      else (0, { W with recs := W.recs ++ [b], size := W.size + (frameB 82 (W.recs.length + 1) b).length }, (appendD d (nameW W.gen) (frameB 82 (W.recs.length + 1) b)).2) := rfl
  generalize appendW d W b = R at hR ⊢
  have HR := Lib.hid hR
  obtain ⟨i0, hi, hz0, hz1, hz2⟩ := info_parts info_str
  obtain ⟨ok, k0, k1, _, ⟨a3, c3, k3⟩, k4, k5, k6⟩ := isN_cells hs
  have hg := ok.gen
  have hmw := ok.many
  have hfl := frameB_length 82 (W.recs.length + 1) b
  clear hR ok
  go_enter Tryz.func111, Tryz.ntmps111
  by_cases hbr : W.broken = 0
  case neg =>
    have e := HR.out
    rw [if_pos hbr] at e
    have E := Lib.hid e
    have hb2 : (W.broken != 0) = true := by simpa using hbr
    have H := Lib.hid hs
    clear hs k0 k1 k3 k4 k5 hfl e
    go_wp2_with fail
    go_ret
    rw [E.out]
    exact ⟨rfl, H.out⟩
  rw [hbr] at k6
  have e := HR.out
  rw [if_neg (by simp [hbr]), if_neg (by omega)] at e
  have HR2 := Lib.hid e
  have HFL := Lib.hid hfl
  clear e HR hfl hbr
  have z1 : IntKind.i64.wrap ((W.recs.length : Int) + 1) = (W.recs.length : Int) + 1 := by rw [IntKind.wrap_i64]; omega
  have hlen : (b.length : Int) ≤ 1048576 := by omega
  go_wp2_with fail
  have hfr := rrecord_any u w _ (W.recs.length + 1) b (by omega) hbl hs
  rw [show ((W.recs.length + 1 : Nat) : Int) = (W.recs.length : Int) + 1 from by omega] at hfr
  refine hfr.mono ?_
  rintro e w1 ⟨a6, c6, rfl, h1⟩
  dsimp only
  generalize hfe : frameB 82 (W.recs.length + 1) b = f at h1 ⊢
  have HFE := Lib.hid hfe
  clear hfr hs k0 k1 k3 k4 k5 k6 z1 hfe
  go_upto_region 6 with fail
  refine wp_region_seq [(0, true), (1, true), (2, true), (3, true), (4, true), (5, true), (6, true), (7, true), (8, true), (10, true), (9, false), (11, false), (12, false), (13, true)] (fun x => x.cell? ⟨l, 0, none⟩ = some (.pointer (some ⟨p, 0, none⟩)) ∧ x.cell? ⟨l, 1, none⟩ = some (.int .i64 W.gen)) (by kernel_rfl) (by kernel_rfl) (fun _ _ _ _ _ h => h) ?_
  simp only [pickOps, Array.getD_eq_getD_getElem?, List.getElem?_toArray, List.getElem?_cons_succ, List.getElem?_cons_zero, Option.getD_some]
  have h2 : Sat u w1.drew (isN l p W * (ownB (.slice a6 f.length c6) f * (isM p d * F))) := h1.drew.s2
  generalize w1.drew = w2 at h2 ⊢
  clear h1
  obtain ⟨_, k0, k1, _, _, _, _, _⟩ := isN_cells h2
  repeat (first
    | (refine wpSeq_run (by rfl) ⟨k0, k1⟩ (fun K hK => ⟨?_, ?_, ?_⟩); rotate_left; (· (intro wS hSw; have q0 := hSw.1; have q1 := hSw.2; go_simp <;> with_reducible rfl)); simp only [Act.put, List.setIfInBounds_toArray, List.set_cons_zero, List.set_cons_succ]; refine hK _ ?_; clear hK K)
    | (refine wpSeq_skip (by rfl) ⟨k0, k1⟩ (fun K hK => ?_); simp only [Act.put, List.setIfInBounds_toArray, List.set_cons_zero, List.set_cons_succ]; refine hK _ ?_; clear hK K))
  refine wpSeq_act (by rfl) (fun K hK => ?_)
  go_simp
  refine (rname_any w2 W.gen hg).mono ?_
  rintro e w3 ⟨rfl, rfl⟩
  try dsimp only
  try simp only [Act.put, List.setIfInBounds_toArray, List.set_cons_zero, List.set_cons_succ]
  refine hK _ _ (_) ((fun _ h => h)) ⟨k0, k1⟩ ?_
  clear hK K
  refine wpSeq_act (by rfl) (fun K hK => ?_)
  go_simp
  have hfl2 : f.length = 17 + b.length := by rw [← HFE.out]; exact HFL.out
  refine (rappend_any u _ (isN l p W * (ownB (.slice a6 f.length c6) f * F)) p d (nameW W.gen) f a6 c6 (by have := nameW_len W.gen; omega) (by omega) (fun w' h => h.right.bytes) hmany (h2.eq (by ac_rfl))).mono ?_
  rintro e w3 ⟨rfl, h3⟩
  have hx := append_err d (nameW W.gen) f
  have e2 := HR2.out
  rw [HFE.out] at e2
  obtain ⟨x, hxe⟩ : ∃ x, appendD d (nameW W.gen) f = x := ⟨_, rfl⟩
  rw [hxe] at h3 hx e2 ⊢
  have HR3 := Lib.hid e2
  have HFL2 := Lib.hid hfl2
  clear HR2 e2 hxe h2 k0 k1 hfl2 HFL
  have h4 := h3.s2
  obtain ⟨_, k0, k1, _, _, _, _, _⟩ := isN_cells h4
  try dsimp only
  try simp only [Act.put, List.setIfInBounds_toArray, List.set_cons_zero, List.set_cons_succ]
  refine hK _ _ (_) ((fun _ h => h)) ⟨k0, k1⟩ ?_
  clear hK K
  refine wpSeq_act (by rfl) (fun K hK => ?_)
  go_simp
  refine (nmet_any u w3 _ l p W x.1 hx.range.1 hx.range.2 h4).mono ?_
  rintro e w4 ⟨rfl, h5⟩
  have hmg : (metW x.1 W).gen = W.gen := by unfold metW; split <;> rfl
  obtain ⟨ok5, k0, k1, _, _, _, _, _⟩ := isN_cells h5
  rw [hmg] at k1
  clear h3 h4 hmg
  try dsimp only
  try simp only [Act.put, List.setIfInBounds_toArray, List.set_cons_zero, List.set_cons_succ]
  refine hK _ _ (_) ((fun _ h => h)) ⟨k0, k1⟩ ?_
  clear hK K
  repeat (first
    | (refine wpSeq_run (by rfl) ⟨k0, k1⟩ (fun K hK => ⟨?_, ?_, ?_⟩); rotate_left; (· (intro wS hSw; go_simp <;> with_reducible rfl)); simp only [Act.put, List.setIfInBounds_toArray, List.set_cons_zero, List.set_cons_succ]; refine hK _ ?_; clear hK K)
    | (refine wpSeq_skip (by rfl) ⟨k0, k1⟩ (fun K hK => ?_); simp only [Act.put, List.setIfInBounds_toArray, List.set_cons_zero, List.set_cons_succ]; refine hK _ ?_; clear hK K))
  refine wpSeq_end ?_
  clear k0 k1
  by_cases hx0 : x.1 = 0
  case neg =>
    have e := HR3.out
    rw [if_pos hx0] at e
    have E := Lib.hid e
    have hx1 : (x.1 == 0) = false := by rw [beq_eq_false_iff_ne]; exact hx0
    have H := Lib.hid (h5.eq (show _ = ownB (.slice a6 f.length c6) f * (isN l p (metW x.1 W) * (isM p x.2 * F)) by ac_rfl)).right
    clear h5 hx0 e ok5
    go_wp2_with fail
    go_ret
    rw [E.out]
    exact ⟨rfl, H.out⟩
  have e := HR3.out
  rw [if_neg (by simp [hx0])] at e
  have E := Lib.hid e
  have hm : metW x.1 W = W := by unfold metW; rw [if_neg (by rw [hx0]; decide)]
  rw [hm] at h5 ok5
  have h6 := (h5.eq (show _ = ownB (.slice a6 f.length c6) f * (isN l p W * (isM p x.2 * F)) by ac_rfl)).right
  obtain ⟨_, a7, c7, h7⟩ := isN_iff.1 h6
  rw [hx0]
  clear h5 h6 hm hx0 e
  have hfb : f.length ≤ 17 + b.length := by rw [HFL2.out]; exact Nat.le_refl _
  have c3' := h7.cell 3
  have f3' := h7.free 3
  have h8 := h7.alloc (.cells #[.string (str b)] 9)
  have h9 : Sat u _ (ownRow 9 1 (.slice a7 W.recs.length c7) W.recs.length (W.recs.map fun s => Value.string (str s)) * (own l (headN p (.slice a7 W.recs.length c7) W) * (isM p x.2 * F))) := h8.right.s2
  go_upto_region 9 with (at_builtin; refine wpList_append_sl rfl _ _ 32 rfl i0 (.string ⟨#[]⟩) Tryz.underlying32 hi hz0 hz1 hz2 rfl (by decide) rfl rfl h9 (x := .slice (some ⟨w4.heap.size, 0, none⟩) 1 1) (m := 1) (news := [.string (str b)]) (.inr ⟨_, _, rfl, Nat.le_refl _, by decide, fun j y hy => by match j, hy with | 0, hy => cases hy; rw [addr_add]; exact h8.cell 0⟩) rfl (by intro q hq; cases hq with | head => rfl | tail _ hq => cases hq) (by omega) ?_; intro a10 c10 w10 h10 hx; clear hx; have f10 := h10.right.free 3; have c10' := h10.right.cell 3)
  have h11 : Sat u _ (own l (headN p (.slice a10 (W.recs.length + 1) c10) W) * _) := h10.s2.setCell 3 (.slice a10 (W.recs.length + 1) c10)
  generalize w10.setCell ⟨l, 3, none⟩ (.slice a10 (W.recs.length + 1) c10) = w11 at h11 ⊢
  clear h7 h8 h9 h10 c3' f3'
  have c5' := h11.cell 5
  have f5' := h11.free 5
  have e5 : IntKind.i64.wrap ((W.size : Int) + (f.length : Int)) = ((W.size + f.length : Nat) : Int) := by rw [IntWalk.i64_in _ (by omega)]; rfl
  have h12 := h11.setCell 5 (.int .i64 (W.size + f.length : Nat))
  have okn : OkW { W with recs := W.recs ++ [b], size := W.size + f.length } := ⟨ok5.gen, ok5.sure, (show W.size + f.length ≤ 1000000000 by omega), (by show (W.recs ++ [b]).length ≤ 1000000; rw [List.length_append]; simp; omega), ok5.state, (fun y hy => by
    rcases List.mem_append.1 hy with hy | hy
    · exact ok5.recs y hy
    · rw [List.mem_singleton.1 hy]; omega), ok5.broken0, ok5.broken1⟩
  have hrl : (W.recs ++ [b]).length = W.recs.length + 1 := by rw [List.length_append]; rfl
  have H := Lib.hid (isN_iff.2 ⟨okn, a10, c10, by
    show Sat u _ (own l (headN p (.slice a10 (W.recs ++ [b]).length c10) { W with recs := W.recs ++ [b], size := W.size + f.length }) * (ownS (.slice a10 (W.recs ++ [b]).length c10) (W.recs ++ [b]) * (isM p x.2 * F)))
    unfold ownS
    rw [hrl, List.map_append]
    exact h12⟩ : Sat u _ (isN l p { W with recs := W.recs ++ [b], size := W.size + f.length } * (isM p x.2 * F)))
  clear h11 h12 okn hrl
  go_wp2_with fail
  go_ret
  rw [E.out]
  exact ⟨rfl, H.out⟩
end
end Go.Proofs.YtlfmkiclaijokaaGreatDoor

namespace Go.Proofs.YtlfmkiclaijokaaGreatDoor
open Go.RowKit
set_option linter.unusedVariables false

section
variable {tag : UInt8} {most n k : Nat} {b : Bs}

theorem body_take (hn : n = num ((b.drop 1).take 8)) (hk : k = num ((b.drop 9).take 4)) (h1 : 17 + k ≤ b.length) (h2 : b.head? = some tag) : bodyB tag n ((b.drop 13).take k) = b.take (13 + k) := by
  have l1 : ((b.drop 1).take 8).length = 8 := by rw [List.length_take, List.length_drop]; omega
  have l2 : ((b.drop 9).take 4).length = 4 := by rw [List.length_take, List.length_drop]; omega
  have l3 : ((b.drop 13).take k).length = k := by rw [List.length_take, List.length_drop]; omega
  have e1 : be 8 n = (b.drop 1).take 8 := by rw [hn]; have := be_num ((b.drop 1).take 8); rwa [l1] at this
  have e2 : be 4 k = (b.drop 9).take 4 := by rw [hk]; have := be_num ((b.drop 9).take 4); rwa [l2] at this
  have e0 : b.take 1 = [tag] := by
    cases b with
    | nil => cases h2
    | cons x b => simp only [List.head?_cons, Option.some.injEq] at h2; subst h2; rfl
  unfold bodyB
  rw [l3, e1, e2, ← e0, List.take_add (i := 13), show (13 : Nat) = 9 + 4 from rfl, List.take_add (i := 9), show (9 : Nat) = 1 + 8 from rfl, List.take_add (i := 1)]

theorem frame_take (hn : n = num ((b.drop 1).take 8)) (hk : k = num ((b.drop 9).take 4)) (h1 : 17 + k ≤ b.length) (h2 : b.head? = some tag) :
    (frameB tag n ((b.drop 13).take k) = b.take (17 + k)) ↔ num ((b.drop (13 + k)).take 4) = (sumB (b.take (13 + k))).toNat := by
  have l4 : ((b.drop (13 + k)).take 4).length = 4 := by rw [List.length_take, List.length_drop]; omega
  have e4 := be_num ((b.drop (13 + k)).take 4)
  rw [l4] at e4
  unfold frameB
  rw [body_take hn hk h1 h2, show 17 + k = (13 + k) + 4 from by omega, List.take_add (i := 13 + k)]
  have hs := (sumB (b.take (13 + k))).isLt
  constructor
  · intro h
    have h3 := List.append_cancel_left h
    rw [← h3, num_be, Nat.mod_eq_of_lt (by omega)]
  · intro h
    rw [← h, e4]

/-- What is read: the text, the number, how many bytes. -/
def readN (tag : UInt8) (most : Nat) (b : Bs) : Bs × Nat × Nat := match unframeP tag most b with
  | none => ([], 0, 0)
  | some (s, n, _) => (s, n, 17 + s.length)

theorem readN_short (h : b.length < 17) : readN tag most b = ([], 0, 0) := by
  unfold readN
  rw [unframe_short tag most b h]

theorem readN_tag (h : b.head? ≠ some tag) : readN tag most b = ([], 0, 0) := by
  unfold readN unframeP
  rw [if_neg (fun hh => h hh.2.1)]

theorem readN_no (hn : n = num ((b.drop 1).take 8)) (hk : k = num ((b.drop 9).take 4)) (h : ¬ (1 ≤ n ∧ n ≤ 4611686018427387904 ∧ k ≤ most ∧ 17 + k ≤ b.length)) : readN tag most b = ([], 0, 0) := by
  unfold readN unframeP
  rw [if_neg (fun hh => h (by subst hn hk; exact ⟨hh.2.2.1, hh.2.2.2.1, hh.2.2.2.2.1, hh.2.2.2.2.2.1⟩))]

theorem readN_yes (hn : n = num ((b.drop 1).take 8)) (hk : k = num ((b.drop 9).take 4)) (h17 : 17 ≤ b.length) (h2 : b.head? = some tag) (h : 1 ≤ n ∧ n ≤ 4611686018427387904 ∧ k ≤ most ∧ 17 + k ≤ b.length) :
    readN tag most b = if frameB tag n ((b.drop 13).take k) = b.take (17 + k) then ((b.drop 13).take k, n, 17 + k) else ([], 0, 0) := by
  have hf := frame_take hn hk h.2.2.2 h2
  have l3 : ((b.drop 13).take k).length = k := by rw [List.length_take, List.length_drop]; omega
  unfold readN unframeP
  by_cases hc : frameB tag n ((b.drop 13).take k) = b.take (17 + k)
  · rw [if_pos hc]
    have hc2 := hf.1 hc
    subst hn hk
    rw [if_pos ⟨h17, h2, h.1, h.2.1, h.2.2.1, h.2.2.2, hc2⟩]
    dsimp only
    rw [l3]
  · rw [if_neg hc]
    have hc2 := fun x => hc (hf.2 x)
    subst hn hk
    rw [if_neg (fun hh => hc2 hh.2.2.2.2.2.2)]
end

theorem BytesAt.piece {w : World} {bb o len c : Nat} {all : List UInt8} (h : BytesAt w (.slice (some ⟨bb, o, none⟩) len c) all) (k n m : Nat) (hk : k + n ≤ all.length) (hm : n ≤ m) (hmm : m ≤ maxLen) :
    BytesAt w (.slice (some ⟨bb, o + k, none⟩) n m) ((all.drop k).take n) := by
  by_cases hn : 0 < n
  · have := h.part k n m hk hn hm hmm
    rwa [Option.map_some, addr_add_at] at this
  · have : n = 0 := by omega
    subst this
    rw [List.take_zero]
    exact .inr ⟨_, _, rfl, Nat.zero_le _, hmm, fun j u hu => by simp at hu⟩

/-- What read answers. -/
def ReadN (u : World) (F : HProp) (tag : UInt8) (most : Nat) (b : Bs) (e : Ending) (w' : World) : Prop :=
  e = .returned (.tuple #[.string (str (readN tag most b).1), .int .i64 ((readN tag most b).2.1 : Nat), .int .i64 ((readN tag most b).2.2 : Nat)]) ∧ Sat u w' F

section
variable (u w : World) (F : HProp) (tag : UInt8) (most : Nat) (b : Bs) (v : Value)

set_option maxRecDepth 100000 in
set_option maxHeartbeats 4000000 in
theorem nread_any (hm : most ≤ 4294967295) (hl : b.length ≤ 900000) (hb : ∀ w', Sat u w' F → BytesAt w' v b) (hs : Sat u w F) :
    Calls Tryz.prog 95 #[.int .u8 tag.toNat, .int .i64 most, v] w (ReadN u F tag most b) := by
  obtain ⟨a, c, rfl, hc1, hc2⟩ := RowAt.len (hb w hs)
  have HB := Lib.hid hb
  by_cases h17 : b.length < 17
  · have E := Lib.hid (readN_short (tag := tag) (most := most) h17)
    have y1 : (b.length : Int) < 17 := by omega
    have H := Lib.hid hs
    clear hb hs
    go_enter Tryz.func95, Tryz.ntmps95
    go_wp2_with fail
    refine bodyPost_ret (results_tmp3 rfl _ _ _) rfl ?_
    unfold ReadN
    rw [E.out]
    exact ⟨rfl, H.out⟩
  obtain ⟨bb, o, c', hv, q1, q2, hcell⟩ := (hb w hs).open (by omega)
  cases hv
  obtain ⟨x, hx⟩ : ∃ x, b[0]? = some x := ⟨b[0]'(by omega), List.getElem?_eq_getElem _⟩
  have c0 := hcell 0 x hx
  rw [Nat.add_zero] at c0
  have hh : b.head? = some x := by rw [List.head?_eq_getElem?]; exact hx
  have y0 : ¬ (b.length : Int) < 17 := by omega
  have y00 : (0 : Int) < b.length := by omega
  have hxl := x.toNat_lt
  have htl := tag.toNat_lt
  by_cases htg : x = tag
  case neg =>
    have E := Lib.hid (readN_tag (tag := tag) (most := most) (b := b) (by rw [hh]; intro he; cases he; exact htg rfl))
    have hne : ((x.toNat : Int) == (tag.toNat : Int)) = false := by
      rw [beq_eq_false_iff_ne]
      intro he
      exact htg (UInt8.toNat_inj.1 (by omega))
    have H := Lib.hid hs
    clear hb hs hx hh htg hcell
    go_enter Tryz.func95, Tryz.ntmps95
    go_wp2_with fail
    refine bodyPost_ret (results_tmp3 rfl _ _ _) rfl ?_
    unfold ReadN
    rw [E.out]
    exact ⟨rfl, H.out⟩
  subst htg
  have HH := Lib.hid hh
  have z1 : ¬ (c = 1) := by omega
  have z9 : ¬ (c = 9) := by omega
  have z13 : ¬ (c = 13) := by omega
  have y2 : (9 : Int) ≤ c := by omega
  have y3 : (13 : Int) ≤ c := by omega
  have b1 : ∀ w', Sat u w' F → BytesAt w' (.slice (some ⟨bb, o + 1, none⟩) 8 (c - 1)) ((b.drop 1).take 8) := fun w' h' => (HB.out w' h').part 1 8 (c - 1) (by omega) (by decide) (by omega) (by omega)
  have b9 : ∀ w', Sat u w' F → BytesAt w' (.slice (some ⟨bb, o + 9, none⟩) 4 (c - 9)) ((b.drop 9).take 4) := fun w' h' => (HB.out w' h').part 9 4 (c - 9) (by omega) (by decide) (by omega) (by omega)
  have B1 := Lib.hid b1
  have B9 := Lib.hid b9
  clear hb hx hh hcell b1 b9
  go_enter Tryz.func95, Tryz.ntmps95
  go_wp2_with fail
  refine (number8 w _ _ (B1.out w hs) (by rw [List.length_take, List.length_drop]; omega)).mono ?_
  rintro e w1 ⟨rfl, m1, rfl⟩
  dsimp only
  have h1 := hs.drewN m1
  generalize w.drewN m1 = w1 at h1 ⊢
  clear hs c0
  have hn8 : num ((b.drop 1).take 8) < 18446744073709551616 := by
    have h := num_lt ((b.drop 1).take 8)
    have l : ((b.drop 1).take 8).length = 8 := by rw [List.length_take, List.length_drop]; omega
    rw [l] at h
    exact h
  generalize hn : num ((b.drop 1).take 8) = n at hn8 ⊢
  have HN := Lib.hid hn
  clear hn
  go_wp2_with fail
  refine (number4 w1 _ _ (B9.out w1 h1) (by rw [List.length_take, List.length_drop]; omega)).mono ?_
  rintro e w2 ⟨rfl, m2, rfl⟩
  dsimp only
  have h2 := h1.drewN m2
  generalize w1.drewN m2 = w2 at h2 ⊢
  clear h1
  have hk4 : num ((b.drop 9).take 4) < 4294967296 := by
    have h := num_lt ((b.drop 9).take 4)
    have l : ((b.drop 9).take 4).length = 4 := by rw [List.length_take, List.length_drop]; omega
    rw [l] at h
    exact h
  generalize hk : num ((b.drop 9).take 4) = k at hk4 ⊢
  have HK := Lib.hid hk
  clear hk
  go_upto_region 5 with fail
  have e4 : IntKind.i64.wrap (k : Int) = (k : Int) := IntWalk.i64_in _ (by omega)
  have hbad : ¬ (1 ≤ n ∧ n ≤ 4611686018427387904 ∧ k ≤ most ∧ 17 + k ≤ b.length) → readN x most b = ([], 0, 0) := fun h => readN_no HN.out.symm HK.out.symm h
  have HBAD := Lib.hid hbad
  have hN : wrap64 (n : Int) = if n < 9223372036854775808 then (n : Int) else (n : Int) - 18446744073709551616 := by
    unfold wrap64
    split <;> omega
  have HNW := Lib.hid hN
  generalize hNN : wrap64 (n : Int) = N at hN ⊢
  clear e4 hbad
  by_cases g1 : N < 1
  · have d1 : decide (N < 1) = true := decide_eq_true g1
    have E := Lib.hid (HBAD.out (by split at hN <;> omega))
    clear hN hNN
    refine wp_region_seq [(0, true), (1, true), (2, true), (3, true), (4, true), (5, true), (6, true), (7, true), (8, true), (9, true), (10, true), (11, true), (12, true), (13, true), (14, true), (15, true), (16, true), (17, true), (18, true), (19, true), (20, true), (21, true), (22, true), (23, true), (24, true), (25, true), (28, true), (29, true), (30, true), (31, true), (32, true), (26, false), (27, true), (33, true), (34, true)] (fun x => Sat u x F) (by kernel_rfl) (by kernel_rfl) (fun _ _ _ _ _ h => h) ?_
    simp only [pickOps, Array.getD_eq_getD_getElem?, List.getElem?_toArray, List.getElem?_cons_succ, List.getElem?_cons_zero, Option.getD_some]
    repeat (first
      | (refine wpSeq_run (by rfl) h2.drew (fun K hK => ⟨?_, ?_, ?_⟩); rotate_left; (· (intro wS hSw; go_simp <;> with_reducible rfl)); simp only [Act.put, List.setIfInBounds_toArray, List.set_cons_zero, List.set_cons_succ]; refine hK _ ?_; clear hK K)
      | (refine wpSeq_skip (by rfl) h2.drew (fun K hK => ?_); simp only [Act.put, List.setIfInBounds_toArray, List.set_cons_zero, List.set_cons_succ]; refine hK _ ?_; clear hK K))
    refine wpSeq_pass (by rfl) h2.drew (fun K hK => ?_)
    simp only [Act.put, List.setIfInBounds_toArray, List.set_cons_zero, List.set_cons_succ]
    refine hK _ ?_
    clear hK K
    repeat (first
      | (refine wpSeq_run (by rfl) h2.drew (fun K hK => ⟨?_, ?_, ?_⟩); rotate_left; (· (intro wS hSw; go_simp <;> with_reducible rfl)); simp only [Act.put, List.setIfInBounds_toArray, List.set_cons_zero, List.set_cons_succ]; refine hK _ ?_; clear hK K)
      | (refine wpSeq_skip (by rfl) h2.drew (fun K hK => ?_); simp only [Act.put, List.setIfInBounds_toArray, List.set_cons_zero, List.set_cons_succ]; refine hK _ ?_; clear hK K))
    refine wpSeq_end ?_
    have H := Lib.hid h2.drew
    clear h2
    go_wp2_with fail
    refine bodyPost_ret (results_tmp3 rfl _ _ _) rfl ?_
    unfold ReadN
    rw [E.out]
    exact ⟨rfl, H.out⟩
  have d1 : decide (N < 1) = false := decide_eq_false g1
  by_cases g2 : 4611686018427387904 < N
  · have d2 : decide (4611686018427387904 < N) = true := decide_eq_true g2
    have E := Lib.hid (HBAD.out (by split at hN <;> omega))
    clear hN hNN
    refine wp_region_seq [(0, true), (1, true), (2, true), (3, true), (4, true), (5, true), (6, true), (7, true), (8, true), (9, true), (10, true), (11, true), (12, true), (13, true), (14, true), (15, true), (16, true), (17, true), (18, true), (19, true), (20, true), (21, true), (22, true), (23, true), (24, true), (25, true), (28, true), (29, true), (30, true), (31, true), (32, true), (26, false), (27, true), (33, true), (34, true)] (fun x => Sat u x F) (by kernel_rfl) (by kernel_rfl) (fun _ _ _ _ _ h => h) ?_
    simp only [pickOps, Array.getD_eq_getD_getElem?, List.getElem?_toArray, List.getElem?_cons_succ, List.getElem?_cons_zero, Option.getD_some]
    repeat (first
      | (refine wpSeq_run (by rfl) h2.drew (fun K hK => ⟨?_, ?_, ?_⟩); rotate_left; (· (intro wS hSw; go_simp <;> with_reducible rfl)); simp only [Act.put, List.setIfInBounds_toArray, List.set_cons_zero, List.set_cons_succ]; refine hK _ ?_; clear hK K)
      | (refine wpSeq_skip (by rfl) h2.drew (fun K hK => ?_); simp only [Act.put, List.setIfInBounds_toArray, List.set_cons_zero, List.set_cons_succ]; refine hK _ ?_; clear hK K))
    refine wpSeq_pass (by rfl) h2.drew (fun K hK => ?_)
    simp only [Act.put, List.setIfInBounds_toArray, List.set_cons_zero, List.set_cons_succ]
    refine hK _ ?_
    clear hK K
    repeat (first
      | (refine wpSeq_run (by rfl) h2.drew (fun K hK => ⟨?_, ?_, ?_⟩); rotate_left; (· (intro wS hSw; go_simp <;> with_reducible rfl)); simp only [Act.put, List.setIfInBounds_toArray, List.set_cons_zero, List.set_cons_succ]; refine hK _ ?_; clear hK K)
      | (refine wpSeq_skip (by rfl) h2.drew (fun K hK => ?_); simp only [Act.put, List.setIfInBounds_toArray, List.set_cons_zero, List.set_cons_succ]; refine hK _ ?_; clear hK K))
    refine wpSeq_end ?_
    have H := Lib.hid h2.drew
    clear h2
    go_wp2_with fail
    refine bodyPost_ret (results_tmp3 rfl _ _ _) rfl ?_
    unfold ReadN
    rw [E.out]
    exact ⟨rfl, H.out⟩
  have hn63 : n < 9223372036854775808 := by split at hN <;> omega
  rw [if_pos hn63] at hN
  subst hN
  have d2 : decide (4611686018427387904 < (n : Int)) = false := decide_eq_false g2
  by_cases g3 : (most : Int) < k
  · have d3 : decide ((most : Int) < k) = true := decide_eq_true g3
    have E := Lib.hid (HBAD.out (by omega))
    clear hNN
    refine wp_region_seq [(0, true), (1, true), (2, true), (3, true), (4, true), (5, true), (6, true), (7, true), (8, true), (9, true), (10, true), (11, true), (12, true), (13, true), (14, true), (15, true), (16, true), (17, true), (18, true), (19, true), (20, true), (21, true), (22, true), (23, true), (24, true), (25, true), (28, true), (29, true), (30, true), (31, true), (32, true), (26, false), (27, true), (33, true), (34, true)] (fun x => Sat u x F) (by kernel_rfl) (by kernel_rfl) (fun _ _ _ _ _ h => h) ?_
    simp only [pickOps, Array.getD_eq_getD_getElem?, List.getElem?_toArray, List.getElem?_cons_succ, List.getElem?_cons_zero, Option.getD_some]
    repeat (first
      | (refine wpSeq_run (by rfl) h2.drew (fun K hK => ⟨?_, ?_, ?_⟩); rotate_left; (· (intro wS hSw; go_simp <;> with_reducible rfl)); simp only [Act.put, List.setIfInBounds_toArray, List.set_cons_zero, List.set_cons_succ]; refine hK _ ?_; clear hK K)
      | (refine wpSeq_skip (by rfl) h2.drew (fun K hK => ?_); simp only [Act.put, List.setIfInBounds_toArray, List.set_cons_zero, List.set_cons_succ]; refine hK _ ?_; clear hK K))
    refine wpSeq_pass (by rfl) h2.drew (fun K hK => ?_)
    simp only [Act.put, List.setIfInBounds_toArray, List.set_cons_zero, List.set_cons_succ]
    refine hK _ ?_
    clear hK K
    repeat (first
      | (refine wpSeq_run (by rfl) h2.drew (fun K hK => ⟨?_, ?_, ?_⟩); rotate_left; (· (intro wS hSw; go_simp <;> with_reducible rfl)); simp only [Act.put, List.setIfInBounds_toArray, List.set_cons_zero, List.set_cons_succ]; refine hK _ ?_; clear hK K)
      | (refine wpSeq_skip (by rfl) h2.drew (fun K hK => ?_); simp only [Act.put, List.setIfInBounds_toArray, List.set_cons_zero, List.set_cons_succ]; refine hK _ ?_; clear hK K))
    refine wpSeq_end ?_
    have H := Lib.hid h2.drew
    clear h2
    go_wp2_with fail
    refine bodyPost_ret (results_tmp3 rfl _ _ _) rfl ?_
    unfold ReadN
    rw [E.out]
    exact ⟨rfl, H.out⟩
  have e17 : IntKind.i64.wrap ((b.length : Int) - 17) = (b.length : Int) - 17 := IntWalk.i64_in _ (by omega)
  have d3 : decide ((most : Int) < k) = false := decide_eq_false g3
  by_cases g4 : (b.length : Int) - 17 < k
  · have d4 : decide ((b.length : Int) - 17 < k) = true := decide_eq_true g4
    have E := Lib.hid (HBAD.out (by omega))
    clear hNN
    refine wp_region_seq [(0, true), (1, true), (2, true), (3, true), (4, true), (5, true), (6, true), (7, true), (8, true), (9, true), (10, true), (11, true), (12, true), (13, true), (14, true), (15, true), (16, true), (17, true), (18, true), (19, true), (20, true), (21, true), (22, true), (23, true), (24, true), (25, true), (28, true), (29, true), (30, true), (31, true), (32, true), (26, false), (27, true), (33, true), (34, true)] (fun x => Sat u x F) (by kernel_rfl) (by kernel_rfl) (fun _ _ _ _ _ h => h) ?_
    simp only [pickOps, Array.getD_eq_getD_getElem?, List.getElem?_toArray, List.getElem?_cons_succ, List.getElem?_cons_zero, Option.getD_some]
    repeat (first
      | (refine wpSeq_run (by rfl) h2.drew (fun K hK => ⟨?_, ?_, ?_⟩); rotate_left; (· (intro wS hSw; go_simp <;> with_reducible rfl)); simp only [Act.put, List.setIfInBounds_toArray, List.set_cons_zero, List.set_cons_succ]; refine hK _ ?_; clear hK K)
      | (refine wpSeq_skip (by rfl) h2.drew (fun K hK => ?_); simp only [Act.put, List.setIfInBounds_toArray, List.set_cons_zero, List.set_cons_succ]; refine hK _ ?_; clear hK K))
    refine wpSeq_pass (by rfl) h2.drew (fun K hK => ?_)
    simp only [Act.put, List.setIfInBounds_toArray, List.set_cons_zero, List.set_cons_succ]
    refine hK _ ?_
    clear hK K
    repeat (first
      | (refine wpSeq_run (by rfl) h2.drew (fun K hK => ⟨?_, ?_, ?_⟩); rotate_left; (· (intro wS hSw; go_simp <;> with_reducible rfl)); simp only [Act.put, List.setIfInBounds_toArray, List.set_cons_zero, List.set_cons_succ]; refine hK _ ?_; clear hK K)
      | (refine wpSeq_skip (by rfl) h2.drew (fun K hK => ?_); simp only [Act.put, List.setIfInBounds_toArray, List.set_cons_zero, List.set_cons_succ]; refine hK _ ?_; clear hK K))
    refine wpSeq_end ?_
    have H := Lib.hid h2.drew
    clear h2
    go_wp2_with fail
    refine bodyPost_ret (results_tmp3 rfl _ _ _) rfl ?_
    unfold ReadN
    rw [E.out]
    exact ⟨rfl, H.out⟩
  have d4 : decide ((b.length : Int) - 17 < k) = false := decide_eq_false g4
  have hyes := Lib.hid (readN_yes HN.out.symm HK.out.symm (by omega) HH.out (tag := x) (most := most) ⟨by omega, by omega, by omega, by omega⟩)
  have hkl : 17 + k ≤ b.length := by omega
  obtain ⟨m13, h13⟩ : ∃ m, 13 + k = m := ⟨_, rfl⟩
  obtain ⟨m17, h17e⟩ : ∃ m, 17 + k = m := ⟨_, rfl⟩
  have H13 := Lib.hid h13
  have H17 := Lib.hid h17e
  have e13 : IntKind.i64.wrap (13 + (k : Int)) = (m13 : Int) := by rw [IntWalk.i64_in _ (by omega)]; omega
  have e17' : IntKind.i64.wrap (17 + (k : Int)) = (m17 : Int) := by rw [IntWalk.i64_in _ (by omega)]; omega
  have x13 : m13 - 13 = k := by omega
  have x1 : (13 : Int) ≤ m13 := by omega
  have x2 : (m13 : Int) ≤ c := by omega
  have x3 : (m17 : Int) ≤ c := by omega
  have x4 : (0 : Int) ≤ m17 := by omega
  have s13 : ∀ w', Sat u w' F → BytesAt w' (.slice (some ⟨bb, o + 13, none⟩) k (c - 13)) ((b.drop 13).take k) := fun w' h' => (HB.out w' h').piece 13 k (c - 13) (by omega) (by omega) (by omega)
  have s17 : ∀ w', Sat u w' F → BytesAt w' (.slice (some ⟨bb, o, none⟩) m17 c) (b.take m17) := fun w' h' => by
    have := (HB.out w' h').piece 0 m17 c (by omega) (by omega) hc2
    rwa [Nat.add_zero, List.drop_zero] at this
  have S13 := Lib.hid s13
  have S17 := Lib.hid s17
  have hn9 : n < 9223372036854775808 := hn63
  clear h13 h17e s13 s17 hNN
  refine wp_region_seq [(0, true), (1, true), (2, true), (3, true), (4, true), (5, true), (6, true), (7, true), (8, true), (9, true), (10, true), (11, true), (12, true), (13, true), (14, true), (15, true), (16, true), (17, true), (18, true), (19, true), (20, true), (21, true), (22, true), (23, true), (24, true), (25, true), (28, true), (29, true), (30, true), (31, true), (32, true), (26, false), (27, true), (33, true), (34, true)] (fun x => Sat u x F) (by kernel_rfl) (by kernel_rfl) (fun _ _ _ _ _ h => h) ?_
  simp only [pickOps, Array.getD_eq_getD_getElem?, List.getElem?_toArray, List.getElem?_cons_succ, List.getElem?_cons_zero, Option.getD_some]
  repeat (first
    | (refine wpSeq_run (by rfl) h2.drew (fun K hK => ⟨?_, ?_, ?_⟩); rotate_left; (· (intro wS hSw; have cv13 := run_string_of (P := Tryz.prog) (S13.out _ hSw) 34 9 5 Tryz.underlying34 Tryz.underlying5 Tryz.underlying9; have cv17 := run_string_of (P := Tryz.prog) (S17.out _ hSw) 34 9 5 Tryz.underlying34 Tryz.underlying5 Tryz.underlying9; go_simp <;> with_reducible rfl)); simp only [Act.put, List.setIfInBounds_toArray, List.set_cons_zero, List.set_cons_succ]; refine hK _ ?_; clear hK K)
    | (refine wpSeq_skip (by rfl) h2.drew (fun K hK => ?_); simp only [Act.put, List.setIfInBounds_toArray, List.set_cons_zero, List.set_cons_succ]; refine hK _ ?_; clear hK K))
  refine wpSeq_act (by rfl) (fun K hK => ?_)
  go_simp
  refine (rframed_any u _ F x n ((b.drop 13).take k) (by omega) (by rw [List.length_take]; omega) h2.drew).mono ?_
  rintro e w3 ⟨a3, c3, rfl, h3⟩
  try dsimp only
  try simp only [Act.put, List.setIfInBounds_toArray, List.set_cons_zero, List.set_cons_succ]
  refine hK _ _ ((fun y => Sat u y (ownB (.slice a3 (frameB x n ((b.drop 13).take k)).length c3) (frameB x n ((b.drop 13).take k)) * F))) ((fun _ h => h.right)) h3 ?_
  clear hK K
  have YES := hyes
  clear hyes
  generalize frameB x n ((b.drop 13).take k) = f at h3 YES ⊢
  by_cases hfe : f = b.take m17
  · have hbq : ((str f).toList == (str (b.take m17)).toList) = true := by rw [str_beq]; exact decide_eq_true hfe
    have E := Lib.hid (show readN x most b = ((b.drop 13).take k, n, m17) by rw [YES.out, H17.out, if_pos hfe])
    clear hfe
    repeat (first
      | (refine wpSeq_run (by rfl) h3 (fun K hK => ⟨?_, ?_, ?_⟩); rotate_left; (· (intro wS hSw; have cvf := run_string_of (P := Tryz.prog) hSw.bytes 34 9 5 Tryz.underlying34 Tryz.underlying5 Tryz.underlying9; go_simp <;> with_reducible rfl)); simp only [Act.put, List.setIfInBounds_toArray, List.set_cons_zero, List.set_cons_succ]; refine hK _ ?_; clear hK K)
      | (refine wpSeq_skip (by rfl) h3 (fun K hK => ?_); simp only [Act.put, List.setIfInBounds_toArray, List.set_cons_zero, List.set_cons_succ]; refine hK _ ?_; clear hK K))
    refine wpSeq_end ?_
    have H := Lib.hid h3.right
    have cv13 := run_string_of (P := Tryz.prog) (S13.out _ h3.right) 34 9 5 Tryz.underlying34 Tryz.underlying5 Tryz.underlying9
    clear h2 h3
    go_wp2_with fail
    refine bodyPost_ret (results_tmp3 rfl _ _ _) rfl ?_
    unfold ReadN
    rw [E.out]
    exact ⟨rfl, H.out⟩
  · have hbq : ((str f).toList == (str (b.take m17)).toList) = false := by rw [str_beq]; exact decide_eq_false hfe
    have E := Lib.hid (show readN x most b = ([], 0, 0) by rw [YES.out, H17.out, if_neg hfe])
    clear hfe
    repeat (first
      | (refine wpSeq_run (by rfl) h3 (fun K hK => ⟨?_, ?_, ?_⟩); rotate_left; (· (intro wS hSw; have cvf := run_string_of (P := Tryz.prog) hSw.bytes 34 9 5 Tryz.underlying34 Tryz.underlying5 Tryz.underlying9; go_simp <;> with_reducible rfl)); simp only [Act.put, List.setIfInBounds_toArray, List.set_cons_zero, List.set_cons_succ]; refine hK _ ?_; clear hK K)
      | (refine wpSeq_skip (by rfl) h3 (fun K hK => ?_); simp only [Act.put, List.setIfInBounds_toArray, List.set_cons_zero, List.set_cons_succ]; refine hK _ ?_; clear hK K))
    refine wpSeq_end ?_
    have H := Lib.hid h3.right
    clear h2 h3
    go_wp2_with fail
    refine bodyPost_ret (results_tmp3 rfl _ _ _) rfl ?_
    unfold ReadN
    rw [E.out]
    exact ⟨rfl, H.out⟩
end
end Go.Proofs.YtlfmkiclaijokaaGreatDoor
