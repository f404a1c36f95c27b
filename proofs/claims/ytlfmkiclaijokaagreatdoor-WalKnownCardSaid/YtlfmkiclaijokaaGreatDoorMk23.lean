/- reopen. -/
import Derived.Test.YtlfmkiclaijokaaGreatDoorMk21
import Derived.Test.YtlfmkiclaijokaaGreatDoorMk22
import Derived.OpenShut
namespace Go.Proofs.YtlfmkiclaijokaaGreatDoor
open Go.RowKit
set_option linter.unusedVariables false

/-- A log that is found again. -/
structure Kept (g : Nat) (s : Bs) (rows : List Bs) (sure : Nat) (d : DiskP) (W : WalP) : Prop where
  inv : InvO d W
  gen : W.gen = g
  state : W.state = s
  all : W.sure = W.recs.length
  part : ∃ k, W.recs = rows.take k ∧ sure ≤ k ∧ k ≤ rows.length

/-- What an opening finds. -/
def Found (u : World) (F : HProp) (p : Nat) (g : Nat) (s : Bs) (rows : List Bs) (sure : Nat) (set : Int) (e : Ending) (w' : World) : Prop :=
  (∃ l W d', e = .returned (.tuple #[.pointer (some ⟨l, 0, none⟩), .int .i64 0]) ∧ Kept g s rows sure d' W ∧ Sat u w' (isL l p W * (isD p d' * F))) ∨
  (∃ d', e = .returned (.tuple #[.pointer none, .int .i64 40]) ∧ InvD d' g s rows sure ∧ set ≠ -1 ∧ Sat u w' (isD p d' * F))

/-- What reopen finds. -/
def Reopened (u : World) (F : HProp) (p : Nat) (g : Nat) (s : Bs) (rows : List Bs) (sure : Nat) (e : Ending) (w' : World) : Prop :=
  ∃ l W d', e = .returned (.pointer (some ⟨l, 0, none⟩)) ∧ Kept g s rows sure d' W ∧ Sat u w' (isL l p W * (isD p d' * F))

theorem IntsAt.get {w : World} {a : Option Addr} {c : Nat} {xs : List Int} (h : IntsAt w (.slice a xs.length c) xs) {j : Nat} {x : Int} (hj : xs[j]? = some x) :
    ∃ b o, a = some ⟨b, o, none⟩ ∧ w.cell? ⟨b, o + j, none⟩ = some (.int .i64 x) := by
  have hx : (xs.map fun x => Value.int .i64 x)[j]? = some (.int .i64 x) := by rw [List.getElem?_map, hj]; rfl
  rcases h with ⟨_, _, h0⟩ | ⟨⟨b, o, sp⟩, c', hv, _, _, hc⟩
  · rw [h0] at hx; cases hx
  · cases hv
    obtain ⟨y, hy⟩ : ∃ y, (xs.map fun x => Value.int .i64 x)[0]? = some y := by
      cases xs with
      | nil => cases hj
      | cons y xs => exact ⟨_, rfl⟩
    have h0 := hc 0 _ hy
    have hsp : sp = none := by
      cases sp with
      | none => rfl
      | some _ => simp [Addr.add, World.cell?] at h0; split at h0 <;> simp at h0
    subst hsp
    have := hc j _ hx
    rw [addr_add_at] at this
    exact ⟨b, o, rfl, this⟩

theorem IntsAt.len {w : World} {a : Option Addr} {n c : Nat} {xs : List Int} (h : IntsAt w (.slice a n c) xs) : n = xs.length ∧ n ≤ c ∧ c ≤ maxLen := by
  have := RowAt.cap h
  exact this

theorem bits_in (op : BinOp) (x y : Int) : -9223372036854775808 ≤ bits op .i64 x y ∧ bits op .i64 x y ≤ 9223372036854775807 := by
  have h := Go.wf_bits op .i64 x y
  simp [Lit.wf, IntKind.min, IntKind.max, IntKind.signed, IntKind.bits] at h
  omega

theorem Kept.next {d : DiskP} {W : WalP} {g : Nat} {s : Bs} {rows : List Bs} {k1 s1 sure : Nat} (h : Kept g s (rows.take k1) s1 d W) (hs : sure ≤ s1) (hk : k1 ≤ rows.length) : Kept g s rows sure d W := by
  obtain ⟨h1, h2, h3, h4, k, h5, h6, h7⟩ := h
  rw [List.length_take] at h7
  rw [List.take_take] at h5
  refine ⟨h1, h2, h3, h4, k, ?_, by omega, by omega⟩
  rw [h5]
  congr 1
  omega

theorem Kept.toD {d : DiskP} {W : WalP} {g : Nat} {s : Bs} {rows : List Bs} {sure : Nat} (h : Kept g s rows sure d W) : ∃ k1 s1, InvD d g s (rows.take k1) s1 ∧ sure ≤ s1 ∧ k1 ≤ rows.length := by
  obtain ⟨h1, h2, h3, h4, k, h5, h6, h7⟩ := h
  have := h1.toD
  rw [h2, h3, h4, h5] at this
  refine ⟨k, _, this, ?_, h7⟩
  rw [List.length_take]
  omega

section
variable (u w : World) (F : HProp) (p : Nat) (d : DiskP) (g : Nat) (s : Bs) (rows : List Bs) (sure : Nat)

theorem lopen_kept (hD : InvD d g s rows sure) (ho : d.off = false) (hs : Sat u w (isD p d * F)) :
    Calls Tryz.prog 8 #[.pointer (some ⟨p, 0, none⟩)] w (Found u F p g s rows sure d.set) := by
  refine (lopen_any u w F p d hD.short (fun s' g' h => ?_) hs).mono ?_
  · rw [hD.load ho] at h
    cases h
    exact hD.gs
  · intro e w' h
    unfold Opened at h
    rcases hD.open_ok ho with ⟨k, W, d', hR, h1, h2, h3, h4, h5, h6, h7⟩ | ⟨d', hR, h1, h2, h3⟩
    · rw [hR] at h
      obtain ⟨l, he, h⟩ := h
      exact .inl ⟨l, W, d', he, ⟨h1, h2, h3, h7, k, h4, h5, h6⟩, h⟩
    · rw [hR] at h
      obtain ⟨he, h⟩ := h
      exact .inr ⟨d', he, h2, h3, h⟩

variable (keep : List Int) (ak : Option Addr) (ck : Nat) (ints : List Int) (ai : Option Addr) (ci : Nat)

set_option maxHeartbeats 4000000 in
theorem reopen_any (hk : ∀ w', Sat u w' F → IntsAt w' (.slice ak keep.length ck) keep) (hkl : keep.length ≤ 1000000000) (hkr : ∀ x ∈ keep, -9223372036854775808 ≤ x ∧ x ≤ 9223372036854775807)
    (hi : ∀ w', Sat u w' F → IntsAt w' (.slice ai ints.length ci) ints) (hil : ints.length ≤ 1000000000) (hir : ∀ x ∈ ints, -9223372036854775808 ≤ x ∧ x ≤ 9223372036854775807)
    (hD : InvD d g s rows sure) (hs : Sat u w (isD p d * F)) :
    Calls Tryz.prog 14 #[.pointer (some ⟨p, 0, none⟩), .slice ak keep.length ck, .slice ai ints.length ci] w (Reopened u F p g s rows sure) := by
  have HK := Lib.hid hk
  have HKR := Lib.hid hkr
  have HI := Lib.hid hi
  have HIR := Lib.hid hir
  clear hk hkr hi hir
  go_enter Tryz.func14, Tryz.ntmps14
  go_wp2_with fail
  go_loopw [7] (fun t wr => ∃ j : Nat, j ≤ ints.length ∧ j ≤ 8 ∧ t = .int .i64 j ∧ ∃ d1 k1 s1, Sat u wr (isD p d1 * F) ∧ InvD d1 g s (rows.take k1) s1 ∧ sure ≤ s1 ∧ k1 ≤ rows.length) (fun t _ => ints.length - (intOf t).toNat)
  case atStart => exact ⟨0, Nat.zero_le _, Nat.zero_le _, rfl, d, rows.length, sure, hs, by rw [List.take_length]; exact hD, Nat.le_refl _, Nat.le_refl _⟩
  case round =>
    obtain ⟨j, hj, hj8, rfl, d1, k1, s1, h2, hD1, hs1, hk1⟩ := hrel
    clear hs hD
    have HD1 := Lib.hid hD1
    clear hD1
    by_cases hlt : j < ints.length ∧ j < 8
    · obtain ⟨hl1, hl2⟩ := hlt
      obtain ⟨x, hx⟩ : ∃ x, ints[j]? = some x := ⟨_, List.getElem?_eq_getElem hl1⟩
      have hxr := HIR.out x (List.mem_of_getElem? hx)
      obtain ⟨b, o, rfl, c0⟩ := (HI.out wr h2.right).get hx
      have y1 : (j : Int) < ints.length := by omega
      have y2 : (j : Int) < 8 := by omega
      have HX := Lib.hid hx
      clear hx
      clear c0
      go_wp2_with fail
      refine (dcrash_any u wr F p d1 h2).mono ?_
      rintro e w1 ⟨rfl, h3⟩
      dsimp only
      go_wp2_with fail
      refine (don_any u _ F p _ keep ak ck HK.out hkl HKR.out h3).mono ?_
      rintro e w2 ⟨rfl, h4⟩
      dsimp only
      obtain ⟨b', o', e0, c0⟩ := (HI.out w2 h4.right).get HX.out
      cases e0
      go_wp2_with fail
      obtain ⟨b0, b1⟩ := bits_in .and x 7
      generalize bits .and .i64 x 7 = y at b0 b1 ⊢
      refine (dfail_any u _ F p _ y b0 b1 h4).mono ?_
      rintro e w3 ⟨rfl, h5⟩
      dsimp only
      have hD5 := ((HD1.out.crash.on keep).fail y)
      have ho5 : (failD (onD (crashD d1) keep) y).off = false := onD_off _ _
      generalize failD (onD (crashD d1) keep) y = d2 at h5 hD5 ho5
      have HD5 := Lib.hid hD5
      have HO5 := Lib.hid ho5
      clear h2 h3 h4 c0 hD5 ho5 HD1
      go_wp2_with fail
      refine (lopen_kept u _ F p d2 g s _ _ HD5.out HO5.out h5).mono ?_
      rintro e w4 (⟨l, W, d3, rfl, hK, h6⟩ | ⟨d3, rfl, hI, _, h6⟩)
      · obtain ⟨k2, s2, q1, q2, q3⟩ := hK.toD
        have Q1 := Lib.hid q1
        have h7 := h6.right
        clear hK q1 h6
        dsimp only
        go_wp2_with fail
        go_roundw
        case rel => exact ⟨j + 1, by omega, by omega, by go_num, d3, min k2 k1, s2, h7, by have := Q1.out; rw [List.take_take] at this; exact this, by omega, by omega⟩
        case measure => simp [intOf]; omega
      · have Q1 := Lib.hid hI
        clear hI
        dsimp only
        go_wp2_with fail
        go_roundw
        case rel => exact ⟨j + 1, by omega, by omega, by go_num, d3, k1, s1, h6, Q1.out, by omega, by omega⟩
        case measure => simp [intOf]; omega
    · have hcond : (decide ((j : Int) < ints.length) && decide ((j : Int) < 8)) = false := by
        simp only [Bool.and_eq_false_iff, decide_eq_false_iff_not]
        omega
      clear hj
      by_cases hc1 : (j : Int) < ints.length
      · have y2 : ¬ ((j : Int) < 8) := by omega
        clear hcond hlt
        go_wp2_with fail
        refine (dcrash_any u wr F p d1 h2).mono ?_
        rintro e w1 ⟨rfl, h3⟩
        dsimp only
        go_wp2_with fail
        refine (don_any u _ F p _ keep ak ck HK.out hkl HKR.out h3).mono ?_
        rintro e w2 ⟨rfl, h4⟩
        dsimp only
        have hD5 := HD1.out.crash.on keep
        have ho5 : (onD (crashD d1) keep).off = false := onD_off _ _
        have hs5 : (onD (crashD d1) keep).set = -1 := onD_set _ _
        generalize onD (crashD d1) keep = d2 at h4 hD5 ho5 hs5
        have HD5 := Lib.hid hD5
        have HO5 := Lib.hid ho5
        have HS5 := Lib.hid hs5
        clear h2 h3 hD5 ho5 hs5 HD1
        go_wp2_with fail
        refine (lopen_kept u _ F p d2 g s _ _ HD5.out HO5.out h4).mono ?_
        rintro e w4 (⟨l, W, d3, rfl, hK, h6⟩ | ⟨d3, rfl, _, h7, _⟩)
        · have hK2 := Lib.hid (hK.next hs1 hk1)
          clear hK
          dsimp only
          go_wp2_with fail
          go_ret
          exact ⟨l, W, d3, rfl, hK2.out, h6⟩
        · exact absurd HS5.out h7
      · clear hcond hlt
        go_wp2_with fail
        refine (dcrash_any u wr F p d1 h2).mono ?_
        rintro e w1 ⟨rfl, h3⟩
        dsimp only
        go_wp2_with fail
        refine (don_any u _ F p _ keep ak ck HK.out hkl HKR.out h3).mono ?_
        rintro e w2 ⟨rfl, h4⟩
        dsimp only
        have hD5 := HD1.out.crash.on keep
        have ho5 : (onD (crashD d1) keep).off = false := onD_off _ _
        have hs5 : (onD (crashD d1) keep).set = -1 := onD_set _ _
        generalize onD (crashD d1) keep = d2 at h4 hD5 ho5 hs5
        have HD5 := Lib.hid hD5
        have HO5 := Lib.hid ho5
        have HS5 := Lib.hid hs5
        clear h2 h3 hD5 ho5 hs5 HD1
        go_wp2_with fail
        refine (lopen_kept u _ F p d2 g s _ _ HD5.out HO5.out h4).mono ?_
        rintro e w4 (⟨l, W, d3, rfl, hK, h6⟩ | ⟨d3, rfl, _, h7, _⟩)
        · have hK2 := Lib.hid (hK.next hs1 hk1)
          clear hK
          dsimp only
          go_wp2_with fail
          go_ret
          exact ⟨l, W, d3, rfl, hK2.out, h6⟩
        · exact absurd HS5.out h7
end
end Go.Proofs.YtlfmkiclaijokaaGreatDoor
