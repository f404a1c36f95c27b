/- Rows of bytes that are ours and are scribbled over. No program in sight. -/
import Derived.Test.YtojgdejofpafkaaSepConv
namespace Go.Proofs.Ytojgdejofpafkaa
open Go.RowKit

/-- The block g is ours; its first n cells are bytes, whatever they are. -/
def scr (e : TypeId) (g n : Nat) : HProp := fun r =>
  ∃ cur fr, own g (.cells cur e fr) r ∧ (fr = (0, 0) ∨ fr.1 = cur.size) ∧ ∀ i, i < n → ∃ x : Int, cur[i]? = some (.int .u8 x)

section
variable {u w : World} {F : HProp} {e : TypeId} {g n : Nat}

theorem Sat.scr_iff : Sat u w (scr e g n * F) ↔ ∃ cur fr, (fr = (0, 0) ∨ fr.1 = cur.size) ∧ (∀ i, i < n → ∃ x : Int, cur[i]? = some (.int .u8 x)) ∧ Sat u w (own g (.cells cur e fr) * F) := by
  constructor
  · rintro ⟨h1, h2, h3, r, ⟨r1, r2, ⟨cur, fr, ho, a1, a2⟩, p2, hok, rfl⟩, hw⟩
    exact ⟨cur, fr, a1, a2, h1, h2, h3, _, ⟨r1, r2, ho, p2, hok, rfl⟩, hw⟩
  · rintro ⟨cur, fr, a1, a2, h⟩
    exact h.monoL fun r hr => ⟨cur, fr, hr, a1, a2⟩

theorem Sat.scr_get (h : Sat u w (scr e g n * F)) {i : Nat} (hi : i < n) : ∃ x : Int, w.cell? ⟨g, i, none⟩ = some (.int .u8 x) ∧ w.frozen? ⟨g, i, none⟩ = false := by
  obtain ⟨cur, fr, a1, a2, h⟩ := Sat.scr_iff.1 h
  obtain ⟨x, hx⟩ := a2 i hi
  refine ⟨x, by rw [h.cell, hx], ?_⟩
  have hlt : i < cur.size := (Array.getElem?_eq_some_iff.1 hx).1
  simp only [World.frozen?, h.get]
  rcases fr with ⟨lo, hi'⟩
  rcases a1 with a1 | a1
  · cases a1; simp
  · simp only at a1; simp; omega

theorem Sat.scr_set (h : Sat u w (scr e g n * F)) (i : Nat) (x : Int) : Sat u (w.setCell ⟨g, i, none⟩ (.int .u8 x)) (scr e g n * F) := by
  obtain ⟨cur, fr, a1, a2, h⟩ := Sat.scr_iff.1 h
  refine Sat.scr_iff.2 ⟨_, fr, by simpa using a1, fun j hj => ?_, h.setCell i _⟩
  obtain ⟨y, hy⟩ := a2 j hj
  by_cases e : i = j
  · subst e
    have hlt : i < cur.size := (Array.getElem?_eq_some_iff.1 hy).1
    exact ⟨x, by simp [hlt]⟩
  · exact ⟨y, by rw [Array.getElem?_setIfInBounds_ne e]; exact hy⟩

theorem take_bytes {cur : Array Value} {xs : List UInt8} (h : cur.toList.take xs.length = xs.map B) (i : Nat) (hi : i < xs.length) : ∃ x : Int, cur[i]? = some (.int .u8 x) := by
  refine ⟨(xs[i]).toNat, ?_⟩
  have : (xs.map B)[i]? = some (B xs[i]) := by simp [hi]
  rw [← h, List.getElem?_take, if_pos hi] at this
  simpa [B] using this

theorem Sat.scr_ofT {a : Addr} {m c : Nat} {xs : List UInt8} (h : Sat u w (ownT e (.slice (some a) m c) xs * F)) : ∃ g, a = ⟨g, 0, none⟩ ∧ m = xs.length ∧ Sat u w (scr e g xs.length * F) := by
  obtain ⟨g, cap, cur, hv, a1, a2, a3, a4, h'⟩ := Sat.ownT_iff.1 h
  cases hv
  exact ⟨g, rfl, rfl, Sat.scr_iff.2 ⟨cur, _, .inr rfl, take_bytes a4, h'⟩⟩

theorem Sat.scr_ofRow {a : Option Addr} {m c : Nat} {xs : List UInt8} (h : Sat u w (ownRow e 1 (.slice a m c) xs.length (xs.map B) * F)) :
    m = xs.length ∧ ((a = none ∧ xs = [] ∧ Sat u w F) ∨ ∃ g, a = some ⟨g, 0, none⟩ ∧ Sat u w (scr e g xs.length * F)) := by
  rcases Sat.row_iff.1 h with ⟨hv, _, hx, h'⟩ | ⟨g, cap, cur, hv, a1, a2, a3, a4, _, h'⟩
  · cases hv
    have : xs = [] := List.map_eq_nil_iff.1 hx
    subst this
    exact ⟨rfl, .inl ⟨rfl, rfl, h'⟩⟩
  · cases hv
    rw [Nat.mul_one] at a4
    exact ⟨rfl, .inr ⟨g, rfl, Sat.scr_iff.2 ⟨cur, _, .inl rfl, take_bytes a4, h'⟩⟩⟩

/-- The same of a slice's address, nil or not. -/
def scrV (e : TypeId) (a : Option Addr) (n : Nat) : HProp := fun r => (a = none ∧ n = 0 ∧ r = fun _ => none) ∨ ∃ g, a = some ⟨g, 0, none⟩ ∧ scr e g n r

theorem Sat.scrV_iff {a : Option Addr} : Sat u w (scrV e a n * F) ↔ (a = none ∧ n = 0 ∧ Sat u w F) ∨ ∃ g, a = some ⟨g, 0, none⟩ ∧ Sat u w (scr e g n * F) := by
  constructor
  · rintro ⟨h1, h2, h3, r, ⟨r1, r2, hr | ⟨g, hg, ho⟩, p2, hok, rfl⟩, hw⟩
    · obtain ⟨rfl, rfl, rfl⟩ := hr
      exact .inl ⟨rfl, rfl, h1, h2, h3, r2, p2, fun b q o hb => hw b q o (by simpa [joAt] using hb)⟩
    · exact .inr ⟨g, hg, h1, h2, h3, _, ⟨r1, r2, ho, p2, hok, rfl⟩, hw⟩
  · rintro (⟨rfl, rfl, h⟩ | ⟨g, hg, h⟩)
    · exact h.mono fun r hr => ⟨fun _ => none, r, .inl ⟨rfl, rfl, rfl⟩, hr, fun _ => trivial, by simp [joAt]⟩
    · exact h.monoL fun r hr => .inr ⟨g, hg, hr⟩

theorem Sat.scrV_get {a : Option Addr} (h : Sat u w (scrV e a n * F)) {i : Nat} (hi : i < n) : ∃ g, a = some ⟨g, 0, none⟩ ∧ Sat u w (scr e g n * F) := by
  rcases Sat.scrV_iff.1 h with ⟨_, rfl, _⟩ | h
  · omega
  · exact h

theorem Sat.scrV_of {a : Option Addr} {m c : Nat} {xs : List UInt8} (h : Sat u w (ownRow e 1 (.slice a m c) xs.length (xs.map B) * F)) : Sat u w (scrV e a xs.length * F) := by
  obtain ⟨_, ⟨h1, h2, h3⟩ | ⟨g, h1, h2⟩⟩ := h.scr_ofRow
  · exact Sat.scrV_iff.2 (.inl ⟨h1, by rw [h2]; rfl, h3⟩)
  · exact Sat.scrV_iff.2 (.inr ⟨g, h1, h2⟩)
end
#print axioms Sat.scr_ofRow
end Go.Proofs.Ytojgdejofpafkaa
