/- fields.Reader.Raw. -/
import Derived.Test.YtojgdejofpafkaaFields2
import Derived.IntWalk
namespace Go.Proofs.Ytojgdejofpafkaa
open Go.RowKit

theorem addr_add_add (a : Addr) (k j : Nat) : (a.add k).add j = a.add (k + j) := by
  unfold Addr.add
  by_cases hk : k = 0 <;> by_cases hj : j = 0 <;> simp [hk, hj, Nat.add_assoc]

theorem BytesAt.none' {w : World} {a : Option Addr} {n c : Nat} {all : List UInt8} (_h : BytesAt w (.slice a n c) all) : BytesAt w (.slice a 0 0) [] := by
  cases a with
  | none => exact .inl ⟨rfl, rfl, rfl⟩
  | some a => exact .inr ⟨a, 0, rfl, Nat.le_refl _, by decide, fun j u hu => by simp at hu⟩

theorem BytesAt.part {w : World} {a : Option Addr} {len c : Nat} {all : List UInt8} (h : BytesAt w (.slice a len c) all) (k n m : Nat) (hk : k + n ≤ all.length) (hn : 0 < n) (hm : n ≤ m) (hmm : m ≤ maxLen) :
    BytesAt w (.slice (a.map fun x => x.add k) n m) ((all.drop k).take n) := by
  rcases h with ⟨hv, hl, hx⟩ | ⟨a', c', hv, h1, h2, h3⟩
  · have : all.length = 0 := hl
    omega
  · cases hv
    have hl : ((all.drop k).take n).length = n := by simp; omega
    unfold BytesAt
    rw [hl]
    refine .inr ⟨a'.add k, m, rfl, hm, hmm, fun j u hu => ?_⟩
    rw [addr_add_add]
    refine h3 (k + j) u ?_
    simp only [List.getElem?_map, List.getElem?_take, List.getElem?_drop] at hu ⊢
    split at hu
    · exact hu
    · simp at hu

/-- A row that has a byte: where it lies. -/
theorem BytesAt.open {w : World} {v : Value} {xs : List UInt8} (h : BytesAt w v xs) (hx : 0 < xs.length) :
    ∃ b o c, v = .slice (some ⟨b, o, none⟩) xs.length c ∧ xs.length ≤ c ∧ c ≤ maxLen ∧ ∀ (j : Nat) (y : UInt8), xs[j]? = some y → w.cell? ⟨b, o + j, none⟩ = some (.int .u8 y.toNat) := by
  rcases h with ⟨_, h, _⟩ | ⟨⟨b, o, sp⟩, c, rfl, h1, h2, h3⟩
  · omega
  have hc := h3 0 (B xs[0]) (by rw [List.getElem?_map, List.getElem?_eq_getElem hx]; rfl)
  have hsp : sp = none := by
    cases sp with
    | none => rfl
    | some _ => simp [Addr.add, World.cell?] at hc; split at hc <;> simp at hc
  subst hsp
  refine ⟨b, o, c, rfl, h1, h2, fun j y hy => ?_⟩
  rw [← addr_add_at]
  exact h3 j (B y) (by simp [hy])

theorem BytesAt.mk' {w : World} {b o n c : Nat} {xs : List UInt8} (hl : xs.length = n) (h1 : n ≤ c) (h2 : c ≤ maxLen)
    (h3 : ∀ (j : Nat) (y : UInt8), xs[j]? = some y → w.cell? ⟨b, o + j, none⟩ = some (.int .u8 y.toNat)) : BytesAt w (.slice (some ⟨b, o, none⟩) n c) xs := by
  subst hl
  refine .inr ⟨⟨b, o, none⟩, c, rfl, h1, h2, fun j u hu => ?_⟩
  rw [addr_add_at]
  simp only [List.getElem?_map, Option.map_eq_some_iff] at hu
  obtain ⟨y, hy, rfl⟩ := hu
  exact h3 j y hy

/-- What a reader answers that is asked for a row of n bytes. -/
def GotRaw (u : World) (F : HProp) (p : Nat) (all : List UInt8) (st : Option Nat) (n : Int) (e : Ending) (w' : World) : Prop :=
  (∃ (k : Nat) (a : Option Addr) (c : Nat), st = some k ∧ 0 ≤ n ∧ k + n ≤ all.length ∧ e = .returned (.slice a n.toNat c) ∧ Sat u w' (ownB (.slice a n.toNat c) ((all.drop k).take n.toNat) * (isR p all (some (k + n.toNat)) * F))) ∨
  ((∀ k : Nat, st = some k → n < 0 ∨ all.length < k + n) ∧ e = .returned (.slice none 0 0) ∧ Sat u w' (isR p all none * F))

set_option maxHeartbeats 400000 in
theorem rraw_any (u w : World) (F : HProp) (p : Nat) (all : List UInt8) (st : Option Nat) (n : Int) (hs : Sat u w (isR p all st * F)) (hsz : all.length ≤ 1000000000) :
    Calls Try.prog 38 #[.pointer (some ⟨p, 0, none⟩), .int .i64 n] w (GotRaw u F p all st n) := by
  go_enter Try.func38, Try.ntmps38
  go_wp2_with fail
  refine (stands_in u w F p all st n hs hsz).mono ?_
  rintro e w1 (⟨k, rfl, h0, hk, rfl, h1⟩ | ⟨hk, rfl, h1⟩)
  · obtain ⟨a, c, hc0, hc1, hb, hc, h2⟩ := isR_cells h1
    simp only [atOf] at hc1 h2
    have hf1 := h2.free 1
    obtain ⟨n, rfl⟩ := Int.eq_ofNat_of_zero_le h0
    go_wp2
    have h3 := h2.setCell 1 (.int .i64 ((k : Int) + n))
    generalize w1.setCell ⟨p, 1, none⟩ (.int .i64 ((k : Int) + n)) = w2 at h3 ⊢
    have d0 : w2.cell? ⟨p, 0, none⟩ = some (.slice a all.length c) := h3.cell 0
    have d1 : w2.cell? ⟨p, 1, none⟩ = some (.int .i64 ((k : Int) + n)) := h3.cell 1
    have hle : ((k : Int) + n) ≤ c := by omega
    have hle2 : (k : Int) ≤ (k : Int) + n := by omega
    have hle3 : (0 : Int) ≤ (k : Int) := by omega
    have hle4 : (0 : Int) ≤ (k : Int) + n := by omega
    have hw : IntKind.i64.wrap (k : Int) = k := IntWalk.i64_in _ (by omega)
    clear hc0 hc1 hf1 hb hs h1
    go_still_tail 19, (by kernel_rfl)
    change wpList _ _ _ _ _ w2.drew
    clear hw
    generalize hw3 : w2.drew = w3
    have h4 := h3.drew
    rw [hw3] at h4
    clear h3 d0 d1 hw3
    have hb := h4.s2.bytes
    obtain ⟨_, _, hcm⟩ := RowAt.cap hb
    have h5 : Sat u w3 (isR p all (some (k + n)) * F) := isR_iff.2 ⟨by intro k' e; cases e; omega, _, by simpa [atOf] using h4⟩
    go_wp2_with fail
    · have hn0 : n = 0 := by omega
      subst hn0
      refine (clone_any u w3 _ _ [] h5 hb.none' (by decide)).mono ?_
      rintro e w4 ⟨a', c', rfl, h6⟩
      go_wp2
      go_ret
      exact .inl ⟨k, a', c', rfl, h0, hk, rfl, h6⟩
    · have hl : ((all.drop k).take n).length = n := by simp; omega
      refine (clone_any u w3 _ _ _ h5 (hb.part k n n (by omega) (by omega) (Nat.le_refl _) (by omega)) (by omega)).mono ?_
      rw [hl]
      rintro e w4 ⟨a', c', rfl, h6⟩
      go_wp2
      go_ret
      exact .inl ⟨k, a', c', rfl, h0, hk, rfl, h6⟩
  · go_wp2
    go_ret
    exact .inr ⟨hk, rfl, h1⟩
end Go.Proofs.Ytojgdejofpafkaa
