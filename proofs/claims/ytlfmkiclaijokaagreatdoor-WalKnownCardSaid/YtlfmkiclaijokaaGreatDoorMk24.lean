/- works of wal: one run. WalKeeps: what it needs beside the walk. The walk of WalKeeps. -/
import Derived.Test.YtlfmkiclaijokaaGreatDoorMk23
import Derived.Lib.SlBytesConst
namespace Go.Proofs.YtlfmkiclaijokaaGreatDoor
open Go.RowKit
set_option linter.unusedVariables false

def wE : WalP := ⟨0, [], [], 0, 0, 0⟩
def f1W : FileP := ⟨[108, 111, 103, 46, 48], [], [82, 0, 0, 0, 0, 0, 0, 0, 1, 0, 0, 0, 2, 97, 98, 107, 157, 179, 14], false⟩
def f2W : FileP := ⟨[108, 111, 103, 46, 48], [82, 0, 0, 0, 0, 0, 0, 0, 1, 0, 0, 0, 2, 97, 98, 107, 157, 179, 14], [], true⟩
def f3W : FileP := ⟨[108, 111, 103, 46, 48], [82, 0, 0, 0, 0, 0, 0, 0, 1, 0, 0, 0, 2, 97, 98, 107, 157, 179, 14], [82, 0, 0, 0, 0, 0, 0, 0, 2, 0, 0, 0, 2, 99, 100, 0, 16, 216, 128], true⟩
def f4W : FileP := ⟨[108, 111, 103, 46, 48], [82, 0, 0, 0, 0, 0, 0, 0, 1, 0, 0, 0, 2, 97, 98, 107, 157, 179, 14, 82, 0, 0, 0, 0], [], true⟩
def f6W : FileP := ⟨[99, 107], [75, 0, 0, 0, 0, 0, 0, 0, 1, 0, 0, 0, 2, 120, 121, 138, 2, 140, 33], [], true⟩
def w1W : WalP := ⟨0, [], [[97, 98]], 0, 19, 0⟩
def w2W : WalP := ⟨0, [], [[97, 98]], 1, 19, 0⟩
def w3W : WalP := ⟨0, [], [[97, 98], [99, 100]], 1, 38, 0⟩
def w6W : WalP := ⟨1, [120, 121], [], 0, 0, 0⟩

theorem ev0 : openW (newD 1000) = (0, some wE, ⟨[], 1000, 0, -1, false⟩) := by kernel_rfl
theorem ev1 : appendW ⟨[], 1000, 0, -1, false⟩ wE [97, 98] = (0, w1W, ⟨[f1W], 1000, 1, -1, false⟩) := by kernel_rfl
theorem ev2 : commitW ⟨[f1W], 1000, 1, -1, false⟩ w1W = (0, w2W, ⟨[f2W], 1000, 2, -1, false⟩) := by kernel_rfl
theorem ev3 : appendW ⟨[f2W], 1000, 2, -1, false⟩ w2W [99, 100] = (0, w3W, ⟨[f3W], 1000, 3, -1, false⟩) := by kernel_rfl
theorem ev4 : onD (crashD ⟨[f3W], 1000, 3, -1, false⟩) [5] = ⟨[f4W], 1000, 3, -1, false⟩ := by kernel_rfl
theorem ev5 : openW ⟨[f4W], 1000, 3, -1, false⟩ = (0, some w2W, ⟨[f2W], 1000, 4, -1, false⟩) := by kernel_rfl
theorem ev6 : checkW ⟨[f2W], 1000, 4, -1, false⟩ w2W [120, 121] = (0, w6W, ⟨[f6W], 1000, 8, -1, false⟩) := by kernel_rfl

theorem lit2_at {u w : World} {F : HProp} {x y : UInt8} {g : Nat} {t : TypeId} {fr : Nat × Nat} (h : Sat u w (own g (.cells #[B x, B y] t fr) * F)) : BytesAt w (.slice (some ⟨g, 0, none⟩) 2 2) [x, y] := by
  have h := h.get
  refine .inr ⟨⟨g, 0, none⟩, 2, rfl, Nat.le_refl _, by decide, fun j v hj => ?_⟩
  rw [addr_add]
  simp only [World.cell?, h]
  match j, hj with
  | 0, hj => exact hj
  | 1, hj => exact hj
  | j + 2, hj => simp at hj

theorem int1_at {u w : World} {F : HProp} {x : Int} {g : Nat} {t : TypeId} {fr : Nat × Nat} (h : Sat u w (own g (.cells #[.int .i64 x] t fr) * F)) : IntsAt w (.slice (some ⟨g, 0, none⟩) 1 1) [x] := by
  have h := h.get
  refine .inr ⟨⟨g, 0, none⟩, 1, rfl, Nat.le_refl _, by decide, fun j v hj => ?_⟩
  rw [addr_add]
  simp only [World.cell?, h]
  match j, hj with
  | 0, hj => exact hj
  | j + 1, hj => simp at hj

theorem Sat.drop3 {u w : World} {A B C X : HProp} (h : Sat u w (A * (B * (C * X)))) : Sat u w (A * (B * X)) := (h.eq (show _ = C * (A * (B * X)) by ac_rfl)).right
theorem Sat.drop2 {u w : World} {A B X : HProp} (h : Sat u w (A * (B * X))) : Sat u w (A * X) := (h.eq (show _ = B * (A * X) by ac_rfl)).right

theorem Sat.back2 {u w : World} {A B X : HProp} (h : Sat u w (A * (B * X))) : Sat u w (B * (A * X)) := h.eq (by ac_rfl)

theorem Sat.back3 {u w : World} {A B C X : HProp} (h : Sat u w (A * (B * (C * X)))) : Sat u w (B * (C * (A * X))) := h.eq (by ac_rfl)

theorem names1 {u w : World} {F : HProp} {an : Option Addr} {cn : Nat} (h : Sat u w (ownS (.slice an 1 cn) [[99, 107]] * F)) : ∃ g, an = some ⟨g, 0, none⟩ ∧ w.cell? ⟨g, 0, none⟩ = some (.string ⟨#[99, 107]⟩) := by
  have h0 : RowAt w _ _ _ := Sat.row_at h
  rcases Sat.row_iff.1 h with ⟨_, h1, _⟩ | ⟨g, cap, cur, hv, _⟩
  · cases h1
  · cases hv
    rcases h0 with ⟨hv, _⟩ | ⟨a, c, hv, _, _, hc⟩
    · cases hv
    · cases hv
      have := hc 0 _ rfl
      rw [addr_add] at this
      exact ⟨g, rfl, this⟩

section
variable (u w : World) (F : HProp)

set_option maxRecDepth 100000 in
set_option maxHeartbeats 8000000 in
theorem wworks_any (hs : Sat u w F) : Calls Tryz.prog 6 #[] w fun e w' => e = .returned (.bool true) ∧ Sat u w' F := by
  go_enter Tryz.func6, Tryz.ntmps6
  go_wp2_with fail
  refine (dnew_any u w F 1000 (by decide) (by decide) hs).mono ?_
  rintro e w1 ⟨p, rfl, h1⟩
  dsimp only
  clear hs
  go_wp2_with fail
  refine (lopen_any u w1 F p _ (fun f hf => by cases hf) (fun s g h => (by have e : loadP (newD 1000) = some ([], 0) := (by kernel_rfl); rw [e] at h; cases h; decide)) h1).mono ?_
  intro e w2 h2
  rw [ev0] at h2
  obtain ⟨l, rfl, h2⟩ := h2
  dsimp only at h2 ⊢
  clear h1
  have cv := Lib.run_convert_bytes_const (P := Tryz.prog) w2 34 5 #[.int .u8 97, .int .u8 98] 2 2 Tryz.underlying34 Tryz.underlying5
  have h3 : Sat u _ (own w2.heap.size (.cells #[B 97, B 98] 5 (2, 3)) * _) := h2.alloc (.cells #[.int .u8 97, .int .u8 98] 5 (2, 3))
  have h4 := h3.back3
  clear h2 h3
  go_wp2_with fail
  refine (lappend_any u _ _ l p wE ⟨[], 1000, 0, -1, false⟩ [97, 98] _ 2 (by decide) (fun w' h => lit2_at h) (by decide) (by decide) (by decide) h4).mono ?_
  rw [ev1]
  rintro e w3 ⟨rfl, h5⟩
  replace h5 := h5.drop3
  dsimp only at h5 ⊢
  clear cv h4
  go_wp2_with fail
  refine (lcommit_any u _ _ l p w1W ⟨[f1W], 1000, 1, -1, false⟩ h5).mono ?_
  rw [ev2]
  rintro e w4 ⟨rfl, h6⟩
  dsimp only at h6 ⊢
  clear h5
  have cv := Lib.run_convert_bytes_const (P := Tryz.prog) w4 34 5 #[.int .u8 99, .int .u8 100] 2 2 Tryz.underlying34 Tryz.underlying5
  have h7 : Sat u _ (own w4.heap.size (.cells #[B 99, B 100] 5 (2, 3)) * _) := h6.alloc (.cells #[.int .u8 99, .int .u8 100] 5 (2, 3))
  have h8 := h7.back3
  clear h6 h7
  go_wp2_with fail
  refine (lappend_any u _ _ l p w2W ⟨[f2W], 1000, 2, -1, false⟩ [99, 100] _ 2 (by decide) (fun w' h => lit2_at h) (by decide) (by decide) (by decide) h8).mono ?_
  rw [ev3]
  rintro e w5 ⟨rfl, h9⟩
  replace h9 := h9.drop3
  dsimp only at h9 ⊢
  clear cv h8
  go_wp2_with fail
  refine (dcrash_any u _ _ p _ h9.right).mono ?_
  rintro e w6 ⟨rfl, h10⟩
  dsimp only
  clear h9
  have h11 := h10.alloc (.cells #[.int .i64 5] 3)
  go_wp2_with fail
  refine (don_any u _ _ p _ [5] _ 1 (fun w' h => int1_at h) (by decide) (by decide) h11.back2).mono ?_
  rw [ev4]
  rintro e w7 ⟨rfl, h12⟩
  replace h12 := h12.drop2
  dsimp only
  clear h10 h11
  go_wp2_with fail
  refine (lopen_any u w7 _ p _ (by decide) (fun s g h => (by have e : loadP ⟨[f4W], 1000, 3, -1, false⟩ = some ([], 0) := (by kernel_rfl); rw [e] at h; cases h; decide)) h12).mono ?_
  rw [ev5]
  rintro e w8 ⟨l2, rfl, h13⟩
  dsimp only at h13 ⊢
  clear h12
  go_wp2_with fail
  refine (lrecord_yes u w8 _ l2 p w2W 0 [97, 98] rfl h13).mono ?_
  rintro e w9 ⟨ar, cr, rfl, h14⟩
  dsimp only
  clear h13
  have cs1 : (convert 34 9 (.slice ar 2 cr)).run Tryz.prog w9 = .ok (.string ⟨#[97, 98]⟩) w9 := run_string_of (P := Tryz.prog) h14.bytes 34 9 5 Tryz.underlying34 Tryz.underlying5 Tryz.underlying9
  go_wp2_with fail
  refine (lcount_any u _ _ l2 p _ h14.right).mono ?_
  rintro e w10 ⟨rfl, rfl⟩
  dsimp only
  have cv := Lib.run_convert_bytes_const (P := Tryz.prog) w9 34 5 #[.int .u8 120, .int .u8 121] 2 2 Tryz.underlying34 Tryz.underlying5
  have h15 : Sat u _ (own w9.heap.size (.cells #[B 120, B 121] 5 (2, 3)) * _) := h14.right.alloc (.cells #[.int .u8 120, .int .u8 121] 5 (2, 3))
  have h16 := h15.back3
  clear h14 h15
  have q1 : ((w2W.recs.length : Nat) : Int) = 1 := rfl
  rw [q1]
  clear q1
  go_wp2_with fail
  refine (lcheck_any u _ _ l2 p w2W ⟨[f2W], 1000, 4, -1, false⟩ [120, 121] _ 2 (by decide) (fun w' h => lit2_at h) (by decide) (by decide) h16).mono ?_
  rw [ev6]
  rintro e w11 ⟨rfl, h17⟩
  replace h17 := h17.drop3
  dsimp only at h17 ⊢
  clear cv h16 cs1
  go_wp2_with fail
  refine (names_any u _ _ p _ h17.s2).mono ?_
  rintro e w12 ⟨an, cn, rfl, h18⟩
  obtain ⟨gn, rfl, c0⟩ := names1 h18
  have h19 : Sat u w12 (isL l2 p w6W * (isD p ⟨[f6W], 1000, 8, -1, false⟩ * F)) := h18.right.eq (by ac_rfl)
  clear h17 h18
  dsimp only
  rw [show List.length [f6W] = 1 from rfl]
  go_wp2_with fail
  refine (lstate_any u w12 _ l2 p w6W h19).mono ?_
  rintro e w13 ⟨sa, sc, rfl, h20⟩
  dsimp only
  clear h19
  have cs1 : (convert 34 9 (.slice sa 2 sc)).run Tryz.prog w13 = .ok (.string ⟨#[120, 121]⟩) w13 := run_string_of (P := Tryz.prog) h20.bytes 34 9 5 Tryz.underlying34 Tryz.underlying5 Tryz.underlying9
  have h21 := h20.right
  rw [show w6W.state.length = 2 from rfl]
  clear h20 c0
  go_wp2_with fail
  refine (lgeneration_any u _ _ l2 p w6W h21).mono ?_
  rintro e w14 ⟨rfl, rfl⟩
  dsimp only
  rw [show ((w6W.gen : Nat) : Int) = 1 from rfl]
  go_wp2_with fail
  refine (lcount_any u _ _ l2 p w6W h21).mono ?_
  rintro e w15 ⟨rfl, rfl⟩
  dsimp only
  rw [show ((w6W.recs.length : Nat) : Int) = 0 from rfl]
  go_wp2_with fail
  go_ret
  exact ⟨rfl, h21.right.right⟩
end
end Go.Proofs.YtlfmkiclaijokaaGreatDoor

namespace Go.Proofs.YtlfmkiclaijokaaGreatDoor
open Go.RowKit
set_option linter.unusedVariables false

theorem ev_big : openW (newD 1048576) = (0, some wE, ⟨[], 1048576, 0, -1, false⟩) := by kernel_rfl

theorem inv_big : InvO ⟨[], 1048576, 0, -1, false⟩ wE where
  sorted := .nil
  set := by decide
  quota := rfl
  off := rfl
  ck := rfl
  zero := fun _ => rfl
  all := rfl
  dry := by decide +kernel
  sur := Nat.le_refl _
  names := fun f hf => by cases hf
  size := rfl
  broken := rfl
  gs := by decide
  ss := by decide
  rs := by decide +kernel

section
variable {u w : World} {F : HProp}

theorem Sat.drop4 {A B C D X : HProp} (h : Sat u w (A * (B * (C * (D * X))))) : Sat u w (A * (B * (C * X))) := (h.eq (show _ = D * (A * (B * (C * X))) by ac_rfl)).right

theorem Sat.ownS_take {a : Option Addr} {n c k : Nat} {xs : List Bs} (h : Sat u w (ownS (.slice a n c) xs * F)) (hk : k ≤ xs.length) : Sat u w (ownS (.slice a k c) (xs.take k) * F) := by
  have hl : (xs.take k).length = k := by rw [List.length_take]; omega
  unfold ownS
  rw [hl]
  rcases Sat.row_iff.1 h with ⟨hv, h1, h2, h3⟩ | ⟨g, cap, cur, hv, a1, a2, a3, a4, a5, h3⟩
  · have hx : xs = [] := by simpa using h2
    subst hx
    have hk0 : k = 0 := by simpa using hk
    subst hk0
    cases hv
    exact Sat.row_nil h3
  · cases hv
    refine Sat.row_mk h3 (by omega) a2 a3 ?_
    rw [List.map_take, ← a4, List.take_take, Nat.mul_one, Nat.mul_one, Nat.min_eq_left hk]

theorem Sat.ownS_at {a : Option Addr} {n c k : Nat} {xs : List Bs} {s : Bs} (h : Sat u w (ownS (.slice a n c) xs * F)) (hk : xs[k]? = some s) : ∃ g, a = some ⟨g, 0, none⟩ ∧ ∀ w', Sat u w' (ownS (.slice a n c) xs * F) → w'.cell? ⟨g, k, none⟩ = some (.string (str s)) := by
  rcases Sat.row_iff.1 h with ⟨hv, h1, h2, h3⟩ | ⟨g, cap, cur, hv, _⟩
  · have hx : xs = [] := by simpa using h2
    subst hx
    cases hk
  · cases hv
    refine ⟨g, rfl, fun w' h' => ?_⟩
    rcases Sat.row_at h' with ⟨hv, _⟩ | ⟨a, c', hv, _, _, hc⟩
    · cases hv
    · cases hv
      have := hc k (.string (str s)) (by rw [List.getElem?_map, hk]; rfl)
      rw [addr_add] at this
      exact this

theorem Sat.ownS_cap {a : Option Addr} {n c : Nat} {xs : List Bs} (h : Sat u w (ownS (.slice a n c) xs * F)) : n = xs.length ∧ n ≤ c ∧ c ≤ 9223372036854775807 := RowAt.cap (Sat.row_at h)
theorem Sat.ownS_snoc {a : Option Addr} {c : Nat} {xs : List Bs} {s : Bs} (h : Sat u w (ownRow 9 1 (.slice a (xs.length + 1) c) (xs.length + 1) (xs.map (fun s => Value.string (str s)) ++ [.string (str s)]) * F)) :
    Sat u w (ownS (.slice a (xs ++ [s]).length c) (xs ++ [s]) * F) := by
  unfold ownS
  rw [List.length_append, List.map_append]
  exact h
end

theorem recsB_snoc_len (l : List Bs) (b : Bs) : (recsB 1 (l ++ [b])).length = (recsB 1 l).length + 17 + b.length := by
  rw [recsB_snoc, List.length_append, frameB_length]
  omega

theorem IntsAt.take {w : World} {a : Option Addr} {c m : Nat} {xs : List Int} (h : IntsAt w (.slice a xs.length c) xs) (hm : m ≤ xs.length) : IntsAt w (.slice a (xs.take m).length c) (xs.take m) := by
  have hl : (xs.take m).length = m := by rw [List.length_take]; omega
  unfold IntsAt
  rw [hl]
  rcases h with ⟨hv, h1, h2⟩ | ⟨a', c', hv, h1, h2, hc⟩
  · have hx : xs = [] := by simpa using h2
    subst hx
    have : m = 0 := by simpa using hm
    subst this
    cases hv
    exact .inl ⟨rfl, rfl, rfl⟩
  · cases hv
    refine .inr ⟨a', c, rfl, by omega, h2, fun j u hj => hc j u ?_⟩
    rw [List.map_take, List.getElem?_take] at hj
    split at hj
    · exact hj
    · cases hj

theorem tot_le (cs : List CallV) (j : Nat) : tot (cs.take j) ≤ tot cs := by
  conv => rhs; rw [← List.take_append_drop j cs]
  simp only [tot, List.map_append, List.sum_append]
  omega

theorem CallsAt.cells {w : World} {b o n c : Nat} {cs : List CallV} (h : CallsAt w (some ⟨b, o, none⟩) n c cs) {j : Nat} {x : CallV} (hx : cs[j]? = some x) :
    w.cell? ⟨b, o + j * 5, none⟩ = some (.int .u8 (x.kind : Nat)) ∧ w.cell? ⟨b, o + j * 5 + 1, none⟩ = some (.string x.name) ∧ w.cell? ⟨b, o + j * 5 + 2, none⟩ = some x.vb ∧
    w.cell? ⟨b, o + j * 5 + 3, none⟩ = some (.int .i64 x.n) ∧ w.cell? ⟨b, o + j * 5 + 4, none⟩ = some x.vk := by
  rcases h.at_ with h0 | ⟨b', o', e, hc⟩
  · have hl := h.len
    rw [List.getElem?_eq_none (by omega)] at hx
    cases hx
  · cases e
    exact hc j x hx

/-- What stands behind a call. -/
def Mid (u : World) (F : HProp) (p l j B : Nat) (b : Bs) (t8 t9 t10 t14 t15 : Value) (w : World) : Prop :=
  ∃ (d : DiskP) (av : Option Addr) (cv : Nat) (nw : Bool), t15 = .bool nw ∧
    ((∃ (W : WalP) (f : Int), t8 = .string (str W.state) ∧ t9 = .slice av W.recs.length cv ∧ t10 = .int .i64 W.sure ∧ t14 = .int .i64 f ∧ (f = 0 ∨ f = 2) ∧ InvO d W ∧ W.gen ≤ j + 1 ∧ (recsB 1 W.recs).length ≤ B ∧
        Sat u w (ownS (.slice av W.recs.length cv) W.recs * (isL l p W * (isD p d * F)))) ∨
     (∃ (s : Bs) (R : List Bs) (sure : Nat), t8 = .string (str s) ∧ t9 = .slice av R.length cv ∧ t10 = .int .i64 sure ∧ t14 = .int .i64 40 ∧ d.off = true ∧ (recsB 1 R).length ≤ B ∧
        ((∃ g, g ≤ j + 1 ∧ InvD d g s R sure) ∨ (nw = true ∧ ∃ g, 0 < g ∧ g ≤ j + 1 ∧ InvD d g b [] 0)) ∧
        Sat u w (ownS (.slice av R.length cv) R * (isD p d * F))))

/-- What stands behind an opening. -/
def Back (u : World) (F : HProp) (p l B : Nat) (d : DiskP) (W : WalP) (t8 t9 t10 : Value) (w : World) : Prop :=
  ∃ (R : List Bs) (sure : Nat) (av : Option Addr) (cv : Nat), t8 = .string (str W.state) ∧ t9 = .slice av R.length cv ∧ t10 = .int .i64 sure ∧ (recsB 1 R).length ≤ B ∧ W.recs = R.take W.recs.length ∧ sure ≤ W.recs.length ∧ W.recs.length ≤ R.length ∧
    Sat u w (ownS (.slice av R.length cv) R * (isL l p W * (isD p d * F)))
end Go.Proofs.YtlfmkiclaijokaaGreatDoor

namespace Go.Proofs.YtlfmkiclaijokaaGreatDoor
open Go.RowKit
set_option linter.unusedVariables false

section
variable (u w : World) (F : HProp) (a : Option Addr) (n c : Nat) (cs : List CallV) (ints : List Int) (ai : Option Addr) (ci : Nat)

set_option maxRecDepth 100000 in
set_option maxHeartbeats 16000000 in
theorem wkeeps_any (hA : ∀ w', Sat u w' F → CallsAt w' a n c cs) (hi : ∀ w', Sat u w' F → IntsAt w' (.slice ai ints.length ci) ints) (hir : ∀ x ∈ ints, -9223372036854775808 ≤ x ∧ x ≤ 9223372036854775807) (hs : Sat u w F) :
    Calls Tryz.prog 3 #[.slice a n c, .slice ai ints.length ci] w fun e w' => e = .returned (.bool true) ∧ Sat u w' F := by
  have hn : n = cs.length := (hA w hs).len
  have hib : ints.length ≤ 9223372036854775807 := by
    obtain ⟨_, h1, h2⟩ := IntsAt.len (hi w hs)
    exact Nat.le_trans h1 h2
  obtain ⟨i0, hi0, hz0, hz1, hz2⟩ := info_parts info_str
  have HA := Lib.hid hA
  have HN := Lib.hid hn
  have HI := Lib.hid hi
  have HIR := Lib.hid hir
  clear hA hi hir hn
  go_enter Tryz.func3, Tryz.ntmps3
  go_wp2_with fail
  refine (large_any u w F a n c cs HA.out hs).mono ?_
  rintro e w1 ⟨r, rfl, hr, h1⟩
  dsimp only
  clear hs
  rcases r with _ | _
  rotate_left
  · clear hr
    go_wp2_with fail
    refine (wworks_any u w1 F h1).mono ?_
    rintro e w2 ⟨rfl, h2⟩
    dsimp only
    go_wp2_with fail
    go_ret
    exact ⟨rfl, h2⟩
  obtain ⟨hn6, htot⟩ := hr rfl
  clear hr
  by_cases h100 : (100 : Int) < ints.length
  · go_wp2_with fail
    refine (wworks_any u w1 F h1).mono ?_
    rintro e w2 ⟨rfl, h2⟩
    dsimp only
    go_wp2_with fail
    go_ret
    exact ⟨rfl, h2⟩
  have hil : ints.length ≤ 100 := by omega
  go_wp2_with fail
  refine (dnew_any u w1 F 1048576 (by decide) (by decide) h1).mono ?_
  rintro e w2 ⟨p, rfl, h2⟩
  dsimp only
  clear h1
  go_wp2_with fail
  refine (lopen_any u w2 F p _ (fun f hf => by cases hf) (fun s g h => (by have e : loadP (newD 1048576) = some ([], 0) := (by kernel_rfl); rw [e] at h; cases h; decide)) h2).mono ?_
  intro e w3 h3
  rw [ev_big] at h3
  obtain ⟨l0, rfl, h3⟩ := h3
  dsimp only at h3 ⊢
  clear h2
  have h4 : Sat u w3 (ownS (.slice none 0 0) wE.recs * (isL l0 p wE * (isD p ⟨[], 1048576, 0, -1, false⟩ * F))) := Sat.row_nil h3
  clear h3
  go_wp2_with fail
  go_loopw [6, 8, 9, 10, 11, 12] (fun t6 t8 t9 t10 t11 t12 wr => ∃ (j l : Nat) (W : WalP) (d : DiskP) (av : Option Addr) (cv : Nat), j ≤ n ∧ t6 = .pointer (some ⟨l, 0, none⟩) ∧ t8 = .string (str W.state) ∧ t9 = .slice av W.recs.length cv ∧ t10 = .int .i64 W.sure ∧ t11 = .int .i64 j ∧ t12 = .int .i64 j ∧
    InvO d W ∧ W.gen ≤ j ∧ (recsB 1 W.recs).length ≤ 17 * j + tot (cs.take j) ∧ Sat u wr (ownS (.slice av W.recs.length cv) W.recs * (isL l p W * (isD p d * F)))) (fun _ _ _ _ _ i _ => n - (intOf i).toNat)
  case atStart => exact ⟨0, l0, wE, _, none, 0, Nat.zero_le _, rfl, rfl, rfl, rfl, rfl, rfl, inv_big, Nat.le_refl _, Nat.zero_le _, h4⟩
  case round =>
    clear h4
    obtain ⟨j, l, W, d, av, cv, hj, rfl, rfl, rfl, rfl, rfl, rfl, hI, hg, hb, h5⟩ := hrel
    by_cases hlt : j < n
    · have HINV := Lib.hid hI
      clear hI
      obtain ⟨ob, o, x, ab, cb, ak, ck, rfl, hx, ok, evb, evk, _, _, c0, c1, c2, c3, c4⟩ := (HA.out wr h5.right.right.right).get hlt
      have HX := Lib.hid hx
      have HB := Lib.hid hb
      have OK := Lib.hid ok
      have HVB := Lib.hid evb
      have HVK := Lib.hid evk
      have y1 : (j : Int) < n := by omega
      have hkind := ok.kind
      clear hx hb ok evb evk c0 c1 c2 c3 c4
      go_upto_if 44 with fail
      go_cut [11, 12] (fun s11 s12 wx => s11 = .int .i64 j ∧ s12 = .int .i64 j ∧ ∃ d', InvO d' W ∧ Sat u wx (ownS (.slice av W.recs.length cv) W.recs * (isL l p W * (isD p d' * F))))
      case first J K' hJ hmet =>
        as_aux_lemma =>
          by_cases hji : j < ints.length
          · obtain ⟨q, hq⟩ : ∃ q, ints[j]? = some q := ⟨_, List.getElem?_eq_getElem hji⟩
            obtain ⟨gi, oi, rfl, ci0⟩ := (HI.out wr h5.right.right.right).get hq
            obtain ⟨q0, q1⟩ := HIR.out q (List.mem_of_getElem? hq)
            have y2 : (j : Int) < ints.length := by omega
            clear hq
            go_wp2_with fail
            refine (dfail_any u _ _ p d q q0 q1 (h5.eq (show _ = isD p d * (ownS (.slice av W.recs.length cv) W.recs * (isL l p W * F)) by ac_rfl))).mono ?_
            rintro e w4 ⟨rfl, h6⟩
            dsimp only
            have H6 := Lib.hid h6
            clear h5 h6 ci0
            go_wp2_with fail
            go_meet
            exact ⟨rfl, rfl, _, HINV.out.fail q, H6.out.eq (by ac_rfl)⟩
          · have y2 : ¬ ((j : Int) < ints.length) := by omega
            have H6 := Lib.hid h5
            clear h5
            go_wp2_with fail
            go_meet
            exact ⟨rfl, rfl, _, HINV.out, H6.out⟩
      case rest =>
        obtain ⟨rfl, rfl, d1, hI1, h6⟩ := hcut
        have HI1 := Lib.hid hI1
        clear hI1 h5
        obtain ⟨c0, c1, c2, c3, c4⟩ := (HA.out wc h6.right.right.right).cells HX.out
        rw [HVB.out] at c2
        rw [HVK.out] at c4
        have h7 := h6.alloc (.cells #[.int .u8 (x.kind : Nat), .string x.name, .slice ab x.b.length cb, .int .i64 x.n, .slice ak x.keep.length ck] 36)
        go_upto_block 2 with fail
        clear c0 c1 c2 c3 c4 h6
        generalize wc.heap.size = bx at h7 ⊢
        generalize wc.alloc _ = w7 at h7 ⊢
        generalize hXO : Obj.cells #[.int .u8 (x.kind : Nat), .string x.name, .slice ab x.b.length cb, .int .i64 x.n, .slice ak x.keep.length ck] 36 = XO at h7
        have HXO := Lib.hid hXO
        clear hXO
        have ht : ((x.kind : Nat) : Int) % 4 = ((x.kind % 4 : Nat) : Int) := by omega
        have hk4 : x.kind % 4 < 4 := Nat.mod_lt _ (by decide)
        have hj60 : j < 60 := by have := HN.out; omega
        have hw64 : wrap64 ((j : Int) + 1) = (j : Int) + 1 := IntWalk.wrap64_in _ (by omega)
        rw [ht, hw64]
        clear ht hw64
        generalize x.kind % 4 = k4 at hk4 ⊢
        have htb := tot_snoc cs j x HX.out
        have htc := tot_le cs (j + 1)
        have hbl : x.b.length ≤ 6000 := by unfold callBulk at htb; omega
        have hkl : x.keep.length ≤ 6000 := by unfold callBulk at htb; omega
        have HBB := Lib.hid (show (recsB 1 W.recs).length + 17 + x.b.length ≤ 17 * (j + 1) + tot (cs.take (j + 1)) by have := HB.out; unfold callBulk at htb; omega)
        clear htb htc
        generalize hTT : 17 * (j + 1) + tot (cs.take (j + 1)) = TT at HBB
        have HTT := Lib.hid hTT
        have htt : TT ≤ 7020 := by have := tot_le cs (j + 1); omega
        clear hTT
        have HBS : Hid (∀ w', Sat u w' F → BytesAt w' (.slice ab x.b.length cb) x.b) := Lib.hid fun w' h' => by
          have := (HA.out w' h').bs x (List.mem_of_getElem? HX.out)
          rwa [HVB.out] at this
        go_cut [8, 9, 10, 14, 15] (fun t8 t9 t10 t14 t15 wx => Mid u (own bx XO * F) p l j TT x.b t8 t9 t10 t14 t15 wx)
        case first J K' hJ hmet =>
          have h8 : Sat u w7 (isL l p W * (isD p d1 * (ownS (.slice av W.recs.length cv) W.recs * (own bx XO * F)))) := h7.eq (by ac_rfl)
          clear h7
          rcases (by omega : k4 = 2 ∨ k4 = 3 ∨ (k4 ≠ 2 ∧ k4 ≠ 3)) with rfl | rfl | ⟨hk2, hk3⟩
          · skip
            as_aux_lemma =>
              go_wp2_with fail
              refine (lcommit_any u _ _ l p W d1 h8).mono ?_
              rintro e w8 ⟨rfl, h9⟩
              dsimp only
              have hc := HI1.out.commit
              generalize commitW d1 W = R at h9 hc ⊢
              obtain ⟨r1, W2, d2⟩ := R
              dsimp only at h9 hc ⊢
              clear h8
              rcases hc with ⟨rfl, hI2, rfl⟩ | ⟨rfl, ho, hD⟩
              · have H9 := Lib.hid h9
                have HI2 := Lib.hid hI2
                clear h9 hI2
                go_wp2_with fail
                go_meet
                exact ⟨d2, av, cv, false, rfl, .inl ⟨{ W with sure := W.recs.length }, 0, rfl, rfl, rfl, rfl, .inl rfl, HI2.out, Nat.le_succ_of_le hg, (by have := HBB.out; show (recsB 1 W.recs).length ≤ TT; omega), H9.out.eq (by ac_rfl)⟩⟩
              · have H9 := Lib.hid h9
                have HO := Lib.hid ho
                have HD := Lib.hid hD
                clear h9 ho hD
                go_wp2_with fail
                go_meet
                exact ⟨d2, av, cv, false, rfl, .inr ⟨W.state, W.recs, W.sure, rfl, rfl, rfl, rfl, HO.out, (by have := HBB.out; omega), .inl ⟨W.gen, Nat.le_succ_of_le hg, HD.out⟩, H9.out.right.eq (by ac_rfl)⟩⟩
          · skip
            as_aux_lemma =>
              have e2 : w7.cell? ⟨bx, 2, none⟩ = some (.slice ab x.b.length cb) := by
                have h9 : Sat u w7 (own bx XO * _) := h8.eq (show _ = own bx XO * (isL l p W * (isD p d1 * (ownS (.slice av W.recs.length cv) W.recs * F))) by ac_rfl)
                rw [← HXO.out] at h9
                exact h9.cell 2
              have hfew := HI1.out.few
              go_wp2_with fail
              refine (lcheck_any u _ _ l p W d1 x.b ab cb (by omega) (fun w' h' => HBS.out w' h'.right.right) (by omega) (by omega) h8).mono ?_
              rintro e w8 ⟨rfl, h9⟩
              dsimp only
              have hc := HI1.out.check x.b hbl (by omega)
              have HSS := Lib.hid HI1.out.sur
              generalize checkW d1 W x.b = R at h9 hc ⊢
              obtain ⟨r1, W2, d2⟩ := R
              dsimp only at h9 hc ⊢
              clear h8 e2
              rcases hc with ⟨hR, _⟩ | ⟨_, rfl, hI2, rfl⟩ | ⟨_, rfl, ho, hD⟩
              · cases hR
                have H9 := Lib.hid h9
                clear h9
                go_wp2_with fail
                go_meet
                exact ⟨d1, av, cv, false, rfl, .inl ⟨W, 2, rfl, rfl, rfl, rfl, .inr rfl, HI1.out, Nat.le_succ_of_le hg, (by have := HBB.out; omega), H9.out.eq (by ac_rfl)⟩⟩
              · have e2 : w8.cell? ⟨bx, 2, none⟩ = some (.slice ab x.b.length cb) := by
                  have h9 : Sat u w8 (own bx XO * _) := h9.eq (show _ = own bx XO * (isL l p _ * (isD p d2 * (ownS (.slice av W.recs.length cv) W.recs * F))) by ac_rfl)
                  rw [← HXO.out] at h9
                  exact h9.cell 2
                have cs1 := run_string_of (P := Tryz.prog) (HBS.out w8 h9.right.right.right.right) 34 9 5 Tryz.underlying34 Tryz.underlying5 Tryz.underlying9
                have H9 := Lib.hid (h9.eq (show _ = ownS (.slice av W.recs.length cv) W.recs * (isL l p _ * (isD p d2 * (own bx XO * F))) by ac_rfl)).right
                have HI2 := Lib.hid hI2
                clear h9 hI2
                go_wp2_with fail
                go_meet
                exact ⟨d2, none, 0, true, rfl, .inl ⟨⟨W.gen + 1, x.b, [], 0, 0, 0⟩, 0, rfl, rfl, rfl, rfl, .inl rfl, HI2.out, (by show W.gen + 1 ≤ j + 1; omega), Nat.zero_le _, Sat.row_nil H9.out⟩⟩
              · have H9 := Lib.hid h9
                have HO := Lib.hid ho
                have HD := Lib.hid hD
                clear h9 ho hD
                go_wp2_with fail
                go_meet
                exact ⟨d2, av, cv, true, rfl, .inr ⟨W.state, W.recs, W.sure, rfl, rfl, rfl, rfl, HO.out, (by have := HBB.out; omega), HD.out.imp (fun h => ⟨W.gen, Nat.le_succ_of_le hg, h⟩) (fun h => ⟨rfl, W.gen + 1, Nat.succ_pos _, by omega, h⟩), H9.out.right.eq (by ac_rfl)⟩⟩
          · skip
            as_aux_lemma =>
              have e2 : w7.cell? ⟨bx, 2, none⟩ = some (.slice ab x.b.length cb) := by
                have h9 : Sat u w7 (own bx XO * _) := h8.eq (show _ = own bx XO * (isL l p W * (isD p d1 * (ownS (.slice av W.recs.length cv) W.recs * F))) by ac_rfl)
                rw [← HXO.out] at h9
                exact h9.cell 2
              have hfew := HI1.out.few
              have hsz := HI1.out.size
              have hrm := recsB_many W.recs 1
              have z2 : ¬ ((k4 : Int) = 2) := by omega
              have z3 : ¬ ((k4 : Int) = 3) := by omega
              have HSZ := Lib.hid hsz
              have HRM := Lib.hid hrm
              have HFEW := Lib.hid hfew
              clear hsz hrm hfew
              go_wp2_with fail
              refine (lappend_any u _ _ l p W d1 x.b ab cb (by omega) (fun w' h' => HBS.out w' h'.right.right) (by have := HFEW.out; omega) (by have := HBB.out; have := HRM.out; omega) (by have := HBB.out; have := HSZ.out; omega) h8).mono ?_
              rintro e w8 ⟨rfl, h9⟩
              dsimp only
              have hc := HI1.out.append x.b hbl (by have := HBB.out; omega)
              generalize appendW d1 W x.b = R at h9 hc ⊢
              obtain ⟨r1, W2, d2⟩ := R
              dsimp only at h9 hc ⊢
              clear h8 e2
              have e2 : w8.cell? ⟨bx, 2, none⟩ = some (.slice ab x.b.length cb) := by
                have h9 : Sat u w8 (own bx XO * _) := h9.eq (show _ = own bx XO * (isL l p W2 * (isD p d2 * (ownS (.slice av W.recs.length cv) W.recs * F))) by ac_rfl)
                rw [← HXO.out] at h9
                exact h9.cell 2
              have cs1 := run_string_of (P := Tryz.prog) (HBS.out w8 h9.right.right.right.right) 34 9 5 Tryz.underlying34 Tryz.underlying5 Tryz.underlying9
              rcases hc with ⟨rfl, hI2, rfl⟩ | ⟨rfl, ho, hD⟩
              · have H9 := Lib.hid hI2
                have h11 := (h9.eq (show _ = ownS (.slice av W.recs.length cv) W.recs * (isL l p { W with recs := W.recs ++ [x.b], size := W.size + (17 + x.b.length) } * (isD p d2 * (own bx XO * F))) by ac_rfl)).alloc (.cells #[.string (str x.b)] 9)
                clear h9 hI2
                go_wp2_with (at_builtin; refine wpList_append_sl rfl _ _ 32 rfl i0 (.string ⟨#[]⟩) Tryz.underlying32 hi0 hz0 hz1 hz2 rfl (by decide) rfl rfl h11.right (x := .slice (some ⟨w8.heap.size, 0, none⟩) 1 1) (m := 1) (news := [.string (str x.b)]) (.inr ⟨_, _, rfl, Nat.le_refl _, by decide, fun j y hy => by match j, hy with | 0, hy => cases hy; rw [addr_add]; exact h11.cell 0⟩) rfl (by intro q hq; cases hq with | head => rfl | tail _ hq => cases hq) (by have := HBB.out; have := HRM.out; omega) ?_; intro a4 c4 w9 h12 hx9; clear hx9)
                go_meet
                exact ⟨d2, a4, c4, false, rfl, .inl ⟨{ W with recs := W.recs ++ [x.b], size := W.size + (17 + x.b.length) }, 0, rfl, (by rw [List.length_append]; rfl), rfl, rfl, .inl rfl, H9.out, Nat.le_succ_of_le hg, (by have := HBB.out; show (recsB 1 (W.recs ++ [x.b])).length ≤ TT; rw [recsB_snoc_len]; omega), h12.ownS_snoc⟩⟩
              · have HO := Lib.hid ho
                have HD := Lib.hid hD
                clear ho hD
                have h11 := (h9.eq (show _ = ownS (.slice av W.recs.length cv) W.recs * (isL l p W2 * (isD p d2 * (own bx XO * F))) by ac_rfl)).alloc (.cells #[.string (str x.b)] 9)
                clear h9
                go_wp2_with (at_builtin; refine wpList_append_sl rfl _ _ 32 rfl i0 (.string ⟨#[]⟩) Tryz.underlying32 hi0 hz0 hz1 hz2 rfl (by decide) rfl rfl h11.right (x := .slice (some ⟨w8.heap.size, 0, none⟩) 1 1) (m := 1) (news := [.string (str x.b)]) (.inr ⟨_, _, rfl, Nat.le_refl _, by decide, fun j y hy => by match j, hy with | 0, hy => cases hy; rw [addr_add]; exact h11.cell 0⟩) rfl (by intro q hq; cases hq with | head => rfl | tail _ hq => cases hq) (by have := HBB.out; have := HRM.out; omega) ?_; intro a4 c4 w9 h12 hx9; clear hx9)
                go_meet
                exact ⟨d2, a4, c4, false, rfl, .inr ⟨W.state, W.recs ++ [x.b], W.sure, rfl, (by rw [List.length_append]; rfl), rfl, rfl, HO.out, (by have := HBB.out; rw [recsB_snoc_len]; omega), .inl ⟨W.gen, Nat.le_succ_of_le hg, HD.out⟩, (h12.ownS_snoc.eq (show _ = isL l p W2 * (ownS (.slice a4 (W.recs ++ [x.b]).length c4) (W.recs ++ [x.b]) * (isD p d2 * (own bx XO * F))) by ac_rfl)).right⟩⟩
        case rest =>
          clear h7
          obtain ⟨d2, av2, cv2, nw, rfl, hcut⟩ := hcut
          rcases hcut with ⟨W2, f, rfl, rfl, rfl, rfl, hf, hI2, hg2, hb2, h8⟩ | ⟨s2, R, sure, rfl, rfl, rfl, rfl, ho, hb2, hD, h8⟩
          · skip
            as_aux_lemma =>
              have HI2 := Lib.hid hI2
              have HB2 := Lib.hid hb2
              have ho2 := hI2.off
              clear hI2 hb2
              rcases hf with rfl | rfl
              · go_wp2_with fail
                refine (doff_any u _ (ownS (.slice av2 W2.recs.length cv2) W2.recs * (isL l p W2 * (own bx XO * F))) p d2 (h8.eq (by ac_rfl))).mono ?_
                rintro e w8 ⟨rfl, rfl⟩
                dsimp only
                rw [ho2]
                go_wp2_with fail
                go_roundw
                case rel => exact ⟨j + 1, l, W2, d2, av2, cv2, hlt, rfl, rfl, rfl, rfl, by go_num, by go_num, HI2.out, hg2, by rw [HTT.out]; exact HB2.out, h8.drop4⟩
                case measure => simp [intOf]; omega
              · go_wp2_with fail
                refine (doff_any u _ (ownS (.slice av2 W2.recs.length cv2) W2.recs * (isL l p W2 * (own bx XO * F))) p d2 (h8.eq (by ac_rfl))).mono ?_
                rintro e w8 ⟨rfl, rfl⟩
                dsimp only
                rw [ho2]
                go_wp2_with fail
                go_roundw
                case rel => exact ⟨j + 1, l, W2, d2, av2, cv2, hlt, rfl, rfl, rfl, rfl, by go_num, by go_num, HI2.out, hg2, by rw [HTT.out]; exact HB2.out, h8.drop4⟩
                case measure => simp [intOf]; omega
          · have HD := Lib.hid hD
            have HB2 := Lib.hid hb2
            have hcap := h8.ownS_cap.2
            clear hD hb2
            have e0 : wc.cell? ⟨bx, 0, none⟩ = some (.int .u8 (x.kind : Nat)) ∧ wc.cell? ⟨bx, 4, none⟩ = some (.slice ak x.keep.length ck) := by
              have h9 : Sat u wc (own bx XO * _) := h8.eq (show _ = own bx XO * (ownS (.slice av2 R.length cv2) R * (isD p d2 * F)) by ac_rfl)
              rw [← HXO.out] at h9
              exact ⟨h9.cell 0, h9.cell 4⟩
            go_wp2_with fail
            refine (doff_any u _ (ownS (.slice av2 R.length cv2) R * (own bx XO * F)) p d2 (h8.eq (by ac_rfl))).mono ?_
            rintro e w8 ⟨rfl, rfl⟩
            dsimp only
            rw [ho]
            go_upto_region 37 with fail
            have hw1 : IntKind.i64.wrap ((x.kind : Nat) : Int) = ((x.kind : Nat) : Int) := IntWalk.i64_in _ (by omega)
            have hw2 : IntKind.i64.wrap (((x.kind : Nat) : Int) / 16) = ((x.kind : Nat) : Int) / 16 := IntWalk.i64_in _ (by omega)
            obtain ⟨m, hm, hmm⟩ : ∃ m, min (ints.length : Int) (((x.kind : Nat) : Int) / 16) = ((m : Nat) : Int) ∧ m ≤ ints.length := ⟨min ints.length (x.kind / 16), by omega, by omega⟩
            have hmi : (m : Int) ≤ ints.length := by omega
            obtain ⟨hci, hcm⟩ := (IntsAt.len (HI.out wc h8.right.right.right)).2
            have hmc : (m : Int) ≤ ci := by omega
            refine wp_region_seq [(0, true), (1, true), (2, true), (3, true), (4, true), (5, true), (6, true), (7, true), (8, true), (9, true), (10, true), (11, true), (12, false), (13, true)] (fun wS => wS.cell? ⟨bx, 0, none⟩ = some (.int .u8 (x.kind : Nat)) ∧ wS.cell? ⟨bx, 4, none⟩ = some (.slice ak x.keep.length ck)) (by kernel_rfl) (by kernel_rfl) (fun _ _ _ _ _ h => h) ?_
            simp only [pickOps, Array.getD_eq_getD_getElem?, List.getElem?_toArray, List.getElem?_cons_succ, List.getElem?_cons_zero, Option.getD_some]
            repeat (first
              | (refine wpSeq_run (by rfl) e0 (fun K hK => ⟨?_, ?_, ?_⟩); rotate_left; (· (intro wS hSw; have f0 := hSw.1; have f4 := hSw.2; go_simp <;> with_reducible rfl)); simp only [Act.put, List.setIfInBounds_toArray, List.set_cons_zero, List.set_cons_succ]; refine hK _ ?_; clear hK K)
              | (refine wpSeq_skip (by rfl) e0 (fun K hK => ?_); simp only [Act.put, List.setIfInBounds_toArray, List.set_cons_zero, List.set_cons_succ]; refine hK _ ?_; clear hK K))
            refine wpSeq_act (by rfl) (fun K hK => ?_)
            go_simp
            obtain ⟨g3, s3, R3, sure3, hg3, hD3, hcase⟩ : ∃ g3 s3 R3 sure3, g3 ≤ j + 1 ∧ InvD d2 g3 s3 R3 sure3 ∧ ((s3 = s2 ∧ R3 = R ∧ sure3 = sure) ∨ (nw = true ∧ 0 < g3 ∧ s3 = x.b ∧ R3 = [] ∧ sure3 = 0)) := by
              rcases HD.out with ⟨g, h1, h2⟩ | ⟨h0, g, h1, h2, h3⟩
              · exact ⟨g, _, _, _, h1, h2, .inl ⟨rfl, rfl, rfl⟩⟩
              · exact ⟨g, _, _, _, h2, h3, .inr ⟨h0, h1, rfl, rfl, rfl⟩⟩
            have HCASE := Lib.hid hcase
            have hml : (ints.take m).length = m := by rw [List.length_take]; omega
            have hre := reopen_any u wc.drew (ownS (.slice av2 R.length cv2) R * (own bx XO * F)) p d2 g3 s3 R3 sure3 x.keep ak ck (ints.take m) ai ci
              (fun w' h' => by have := (HA.out w' h'.right.right).ks x (List.mem_of_getElem? HX.out); rwa [HVK.out] at this) (by omega) OK.out.keep
              (fun w' h' => (HI.out w' h'.right.right).take hmm) (by omega) (fun y hy => HIR.out y (List.mem_of_mem_take hy)) hD3 (h8.drew.eq (by ac_rfl))
            rw [hml] at hre
            refine hre.mono ?_
            rintro e w8 ⟨l2, W3, d3, rfl, hKp, h9⟩
            have h10 : Sat u w8 (own bx XO * _) := h9.eq (show _ = own bx XO * (isL l2 p W3 * (isD p d3 * (ownS (.slice av2 R.length cv2) R * F))) by ac_rfl)
            rw [← HXO.out] at h10
            have e8 : w8.cell? ⟨bx, 2, none⟩ = some (.slice ab x.b.length cb) := h10.cell 2
            have HK3 := Lib.hid hKp
            try dsimp only
            try simp only [Act.put, List.setIfInBounds_toArray, List.set_cons_zero, List.set_cons_succ]
            refine hK _ _ (_) ((fun _ h => h)) ⟨h10.cell 0, h10.cell 4⟩ ?_
            clear hK K
            repeat (first
              | (refine wpSeq_run (by rfl) ⟨h10.cell 0, h10.cell 4⟩ (fun K hK => ⟨?_, ?_, ?_⟩); rotate_left; (· (intro wS hSw; go_simp <;> with_reducible rfl)); simp only [Act.put, List.setIfInBounds_toArray, List.set_cons_zero, List.set_cons_succ]; refine hK _ ?_; clear hK K)
              | (refine wpSeq_skip (by rfl) ⟨h10.cell 0, h10.cell 4⟩ (fun K hK => ?_); simp only [Act.put, List.setIfInBounds_toArray, List.set_cons_zero, List.set_cons_succ]; refine hK _ ?_; clear hK K))
            refine wpSeq_end ?_
            clear h8 e0 hre hD3 hKp hcase h10 hw1 hw2 hm hci hcm hmc hmi
            go_upto_region 40 with fail
            go_cut [148] (fun t wx => ∃ r : Bool, t = .bool r ∧ ((r = true ∧ W3.state = x.b ∧ W3.recs = []) ∨ (r = false ∧ s3 = s2 ∧ R3 = R ∧ sure3 = sure)) ∧ Sat u wx (isL l2 p W3 * (isD p d3 * (ownS (.slice av2 R.length cv2) R * (own bx XO * F)))))
            case first J K' hJ hmet =>
              as_aux_lemma =>
                have hS9 : w8.drew.cell? ⟨bx, 2, none⟩ = some (.slice ab x.b.length cb) ∧ Sat u w8.drew (isL l2 p W3 * (isD p d3 * (ownS (.slice av2 R.length cv2) R * (own bx XO * F)))) := ⟨e8, h9.drew⟩
                rcases nw with _ | _
                · skip
                  refine wp_region_seq [(0, true), (1, true), (2, true), (3, true), (4, true), (5, true), (6, true), (9, true), (10, true), (11, true), (7, false), (8, true), (12, true), (13, true), (14, true), (15, true), (16, false), (17, true), (18, true), (19, true), (20, true), (21, false), (22, true), (23, true)] (fun wS => wS.cell? ⟨bx, 2, none⟩ = some (.slice ab x.b.length cb) ∧ Sat u wS (isL l2 p W3 * (isD p d3 * (ownS (.slice av2 R.length cv2) R * (own bx XO * F))))) (by kernel_rfl) (by kernel_rfl) (fun _ _ _ _ _ h => h) ?_
                  simp only [pickOps, Array.getD_eq_getD_getElem?, List.getElem?_toArray, List.getElem?_cons_succ, List.getElem?_cons_zero, Option.getD_some]
                  repeat (first
                    | (refine wpSeq_run (by rfl) hS9 (fun K hK => ⟨?_, ?_, ?_⟩); rotate_left; (· (intro wS hSw; go_simp <;> with_reducible rfl)); simp only [Act.put, List.setIfInBounds_toArray, List.set_cons_zero, List.set_cons_succ]; refine hK _ ?_; clear hK K)
                    | (refine wpSeq_skip (by rfl) hS9 (fun K hK => ?_); simp only [Act.put, List.setIfInBounds_toArray, List.set_cons_zero, List.set_cons_succ]; refine hK _ ?_; clear hK K))
                  refine wpSeq_pass (by rfl) hS9 (fun K hK => ?_)
                  simp only [Act.put, List.setIfInBounds_toArray, List.set_cons_zero, List.set_cons_succ]
                  refine hK _ ?_
                  clear hK K
                  repeat (first
                    | (refine wpSeq_run (by rfl) hS9 (fun K hK => ⟨?_, ?_, ?_⟩); rotate_left; (· (intro wS hSw; go_simp <;> with_reducible rfl)); simp only [Act.put, List.setIfInBounds_toArray, List.set_cons_zero, List.set_cons_succ]; refine hK _ ?_; clear hK K)
                    | (refine wpSeq_skip (by rfl) hS9 (fun K hK => ?_); simp only [Act.put, List.setIfInBounds_toArray, List.set_cons_zero, List.set_cons_succ]; refine hK _ ?_; clear hK K))
                  refine wpSeq_pass (by rfl) hS9 (fun K hK => ?_)
                  simp only [Act.put, List.setIfInBounds_toArray, List.set_cons_zero, List.set_cons_succ]
                  refine hK _ ?_
                  clear hK K
                  repeat (first
                    | (refine wpSeq_run (by rfl) hS9 (fun K hK => ⟨?_, ?_, ?_⟩); rotate_left; (· (intro wS hSw; go_simp <;> with_reducible rfl)); simp only [Act.put, List.setIfInBounds_toArray, List.set_cons_zero, List.set_cons_succ]; refine hK _ ?_; clear hK K)
                    | (refine wpSeq_skip (by rfl) hS9 (fun K hK => ?_); simp only [Act.put, List.setIfInBounds_toArray, List.set_cons_zero, List.set_cons_succ]; refine hK _ ?_; clear hK K))
                  refine wpSeq_pass (by rfl) hS9 (fun K hK => ?_)
                  simp only [Act.put, List.setIfInBounds_toArray, List.set_cons_zero, List.set_cons_succ]
                  refine hK _ ?_
                  clear hK K
                  repeat (first
                    | (refine wpSeq_run (by rfl) hS9 (fun K hK => ⟨?_, ?_, ?_⟩); rotate_left; (· (intro wS hSw; go_simp <;> with_reducible rfl)); simp only [Act.put, List.setIfInBounds_toArray, List.set_cons_zero, List.set_cons_succ]; refine hK _ ?_; clear hK K)
                    | (refine wpSeq_skip (by rfl) hS9 (fun K hK => ?_); simp only [Act.put, List.setIfInBounds_toArray, List.set_cons_zero, List.set_cons_succ]; refine hK _ ?_; clear hK K))
                  refine wpSeq_end ?_
                  have H9 := Lib.hid h9.drew
                  clear h9 hS9
                  refine hmet _ _ ?_
                  go_meet
                  refine ⟨false, rfl, .inr ⟨rfl, ?_⟩, H9.out⟩
                  rcases HCASE.out with h | ⟨h, _⟩
                  · exact h
                  · cases h
                · have hnw : True := trivial
                  clear hnw
                  refine wp_region_seq [(0, true), (1, true), (2, true), (3, true), (4, true), (5, true), (6, true), (9, true), (10, true), (11, true), (7, false), (8, true), (12, true), (13, true), (14, true), (15, true), (16, false), (17, true), (18, true), (19, true), (20, true), (21, false), (22, true), (23, true)] (fun wS => wS.cell? ⟨bx, 2, none⟩ = some (.slice ab x.b.length cb) ∧ Sat u wS (isL l2 p W3 * (isD p d3 * (ownS (.slice av2 R.length cv2) R * (own bx XO * F))))) (by kernel_rfl) (by kernel_rfl) (fun _ _ _ _ _ h => h) ?_
                  simp only [pickOps, Array.getD_eq_getD_getElem?, List.getElem?_toArray, List.getElem?_cons_succ, List.getElem?_cons_zero, Option.getD_some]
                  repeat (first
                    | (refine wpSeq_run (by rfl) hS9 (fun K hK => ⟨?_, ?_, ?_⟩); rotate_left; (· (intro wS hSw; have g1 := hSw.1; have g2 := run_string_of (P := Tryz.prog) (HBS.out wS hSw.2.right.right.right.right) 34 9 5 Tryz.underlying34 Tryz.underlying5 Tryz.underlying9; go_simp <;> with_reducible rfl)); simp only [Act.put, List.setIfInBounds_toArray, List.set_cons_zero, List.set_cons_succ]; refine hK _ ?_; clear hK K)
                    | (refine wpSeq_skip (by rfl) hS9 (fun K hK => ?_); simp only [Act.put, List.setIfInBounds_toArray, List.set_cons_zero, List.set_cons_succ]; refine hK _ ?_; clear hK K))
                  refine wpSeq_act (by rfl) (fun K hK => ?_)
                  go_simp
                  refine (lstate_any u _ _ l2 p W3 h9.drew).mono ?_
                  rintro e w9 ⟨sa, sc, rfl, h10⟩
                  have e9 : w9.cell? ⟨bx, 2, none⟩ = some (.slice ab x.b.length cb) := by
                    have h11 : Sat u w9 (own bx XO * _) := h10.right.eq (show _ = own bx XO * (isL l2 p W3 * (isD p d3 * (ownS (.slice av2 R.length cv2) R * F))) by ac_rfl)
                    rw [← HXO.out] at h11
                    exact h11.cell 2
                  try dsimp only
                  try simp only [Act.put, List.setIfInBounds_toArray, List.set_cons_zero, List.set_cons_succ]
                  refine hK _ _ ((fun wS => wS.cell? ⟨bx, 2, none⟩ = some (.slice ab x.b.length cb) ∧ Sat u wS (ownB (.slice sa W3.state.length sc) W3.state * (isL l2 p W3 * (isD p d3 * (ownS (.slice av2 R.length cv2) R * (own bx XO * F))))))) ((fun _ h => ⟨h.1, h.2.right⟩)) ⟨e9, h10⟩ ?_
                  clear hK K
                  repeat (first
                    | (refine wpSeq_run (by rfl) ⟨e9, h10⟩ (fun K hK => ⟨?_, ?_, ?_⟩); rotate_left; (· (intro wS hSw; have g1 := hSw.1; have g2 := run_string_of (P := Tryz.prog) hSw.2.bytes 34 9 5 Tryz.underlying34 Tryz.underlying5 Tryz.underlying9; go_simp <;> with_reducible rfl)); simp only [Act.put, List.setIfInBounds_toArray, List.set_cons_zero, List.set_cons_succ]; refine hK _ ?_; clear hK K)
                    | (refine wpSeq_skip (by rfl) ⟨e9, h10⟩ (fun K hK => ?_); simp only [Act.put, List.setIfInBounds_toArray, List.set_cons_zero, List.set_cons_succ]; refine hK _ ?_; clear hK K))
                  rcases hb1 : ((str W3.state).toList == (str x.b).toList) with _ | _
                  · have hnw : True := trivial
                    clear hnw
                    repeat (first
                      | (refine wpSeq_run (by rfl) ⟨e9, h10⟩ (fun K hK => ⟨?_, ?_, ?_⟩); rotate_left; (· (intro wS hSw; have g1 := hSw.1; go_simp <;> with_reducible rfl)); simp only [Act.put, List.setIfInBounds_toArray, List.set_cons_zero, List.set_cons_succ]; refine hK _ ?_; clear hK K)
                      | (refine wpSeq_skip (by rfl) ⟨e9, h10⟩ (fun K hK => ?_); simp only [Act.put, List.setIfInBounds_toArray, List.set_cons_zero, List.set_cons_succ]; refine hK _ ?_; clear hK K))
                    refine wpSeq_pass (by rfl) ⟨e9, h10⟩ (fun K hK => ?_)
                    simp only [Act.put, List.setIfInBounds_toArray, List.set_cons_zero, List.set_cons_succ]
                    refine hK _ ?_
                    clear hK K
                    repeat (first
                      | (refine wpSeq_run (by rfl) ⟨e9, h10⟩ (fun K hK => ⟨?_, ?_, ?_⟩); rotate_left; (· (intro wS hSw; have g1 := hSw.1; go_simp <;> with_reducible rfl)); simp only [Act.put, List.setIfInBounds_toArray, List.set_cons_zero, List.set_cons_succ]; refine hK _ ?_; clear hK K)
                      | (refine wpSeq_skip (by rfl) ⟨e9, h10⟩ (fun K hK => ?_); simp only [Act.put, List.setIfInBounds_toArray, List.set_cons_zero, List.set_cons_succ]; refine hK _ ?_; clear hK K))
                    refine wpSeq_pass (by rfl) ⟨e9, h10⟩ (fun K hK => ?_)
                    simp only [Act.put, List.setIfInBounds_toArray, List.set_cons_zero, List.set_cons_succ]
                    refine hK _ ?_
                    clear hK K
                    repeat (first
                      | (refine wpSeq_run (by rfl) ⟨e9, h10⟩ (fun K hK => ⟨?_, ?_, ?_⟩); rotate_left; (· (intro wS hSw; have g1 := hSw.1; go_simp <;> with_reducible rfl)); simp only [Act.put, List.setIfInBounds_toArray, List.set_cons_zero, List.set_cons_succ]; refine hK _ ?_; clear hK K)
                      | (refine wpSeq_skip (by rfl) ⟨e9, h10⟩ (fun K hK => ?_); simp only [Act.put, List.setIfInBounds_toArray, List.set_cons_zero, List.set_cons_succ]; refine hK _ ?_; clear hK K))
                    refine wpSeq_end ?_
                    have H10 := Lib.hid h10.right
                    have HB1 := Lib.hid hb1
                    clear h9 hS9 h10 e9 hb1
                    refine hmet _ _ ?_
                    go_meet
                    refine ⟨false, rfl, .inr ⟨rfl, ?_⟩, H10.out⟩
                    rcases HCASE.out with h | ⟨_, _, h, _⟩
                    · exact h
                    · have e1 := HB1.out
                      rw [str_toList, str_toList, HK3.out.state, h] at e1
                      simp at e1
                  · have hnw : True := trivial
                    clear hnw
                    repeat (first
                      | (refine wpSeq_run (by rfl) ⟨e9, h10⟩ (fun K hK => ⟨?_, ?_, ?_⟩); rotate_left; (· (intro wS hSw; have g1 := hSw.1; go_simp <;> with_reducible rfl)); simp only [Act.put, List.setIfInBounds_toArray, List.set_cons_zero, List.set_cons_succ]; refine hK _ ?_; clear hK K)
                      | (refine wpSeq_skip (by rfl) ⟨e9, h10⟩ (fun K hK => ?_); simp only [Act.put, List.setIfInBounds_toArray, List.set_cons_zero, List.set_cons_succ]; refine hK _ ?_; clear hK K))
                    refine wpSeq_act (by rfl) (fun K hK => ?_)
                    go_simp
                    refine (lcount_any u _ _ l2 p W3 h10.right).mono ?_
                    rintro e w10 ⟨rfl, rfl⟩
                    try dsimp only
                    try simp only [Act.put, List.setIfInBounds_toArray, List.set_cons_zero, List.set_cons_succ]
                    refine hK _ _ (_) ((fun _ h => h)) ⟨e9, h10⟩ ?_
                    clear hK K
                    repeat (first
                      | (refine wpSeq_run (by rfl) ⟨e9, h10⟩ (fun K hK => ⟨?_, ?_, ?_⟩); rotate_left; (· (intro wS hSw; have g1 := hSw.1; go_simp <;> with_reducible rfl)); simp only [Act.put, List.setIfInBounds_toArray, List.set_cons_zero, List.set_cons_succ]; refine hK _ ?_; clear hK K)
                      | (refine wpSeq_skip (by rfl) ⟨e9, h10⟩ (fun K hK => ?_); simp only [Act.put, List.setIfInBounds_toArray, List.set_cons_zero, List.set_cons_succ]; refine hK _ ?_; clear hK K))
                    rcases hb2 : ((W3.recs.length : Int) == 0) with _ | _
                    · have hnw : True := trivial
                      clear hnw
                      repeat (first
                        | (refine wpSeq_run (by rfl) ⟨e9, h10⟩ (fun K hK => ⟨?_, ?_, ?_⟩); rotate_left; (· (intro wS hSw; have g1 := hSw.1; go_simp <;> with_reducible rfl)); simp only [Act.put, List.setIfInBounds_toArray, List.set_cons_zero, List.set_cons_succ]; refine hK _ ?_; clear hK K)
                        | (refine wpSeq_skip (by rfl) ⟨e9, h10⟩ (fun K hK => ?_); simp only [Act.put, List.setIfInBounds_toArray, List.set_cons_zero, List.set_cons_succ]; refine hK _ ?_; clear hK K))
                      refine wpSeq_pass (by rfl) ⟨e9, h10⟩ (fun K hK => ?_)
                      simp only [Act.put, List.setIfInBounds_toArray, List.set_cons_zero, List.set_cons_succ]
                      refine hK _ ?_
                      clear hK K
                      repeat (first
                        | (refine wpSeq_run (by rfl) ⟨e9, h10⟩ (fun K hK => ⟨?_, ?_, ?_⟩); rotate_left; (· (intro wS hSw; have g1 := hSw.1; go_simp <;> with_reducible rfl)); simp only [Act.put, List.setIfInBounds_toArray, List.set_cons_zero, List.set_cons_succ]; refine hK _ ?_; clear hK K)
                        | (refine wpSeq_skip (by rfl) ⟨e9, h10⟩ (fun K hK => ?_); simp only [Act.put, List.setIfInBounds_toArray, List.set_cons_zero, List.set_cons_succ]; refine hK _ ?_; clear hK K))
                      refine wpSeq_end ?_
                      have H10 := Lib.hid h10.right
                      have HB1 := Lib.hid hb1
                      have HB2' := Lib.hid hb2
                      clear h9 hS9 h10 e9 hb1 hb2
                      refine hmet _ _ ?_
                      go_meet
                      refine ⟨false, rfl, .inr ⟨rfl, ?_⟩, H10.out⟩
                      rcases HCASE.out with h | ⟨_, _, _, h, _⟩
                      · exact h
                      · have e1 := HB2'.out
                        obtain ⟨k9, h2, _⟩ := HK3.out.part
                        rw [h2, h] at e1
                        simp at e1
                    · have hnw : True := trivial
                      clear hnw
                      repeat (first
                        | (refine wpSeq_run (by rfl) ⟨e9, h10⟩ (fun K hK => ⟨?_, ?_, ?_⟩); rotate_left; (· (intro wS hSw; have g1 := hSw.1; go_simp <;> with_reducible rfl)); simp only [Act.put, List.setIfInBounds_toArray, List.set_cons_zero, List.set_cons_succ]; refine hK _ ?_; clear hK K)
                        | (refine wpSeq_skip (by rfl) ⟨e9, h10⟩ (fun K hK => ?_); simp only [Act.put, List.setIfInBounds_toArray, List.set_cons_zero, List.set_cons_succ]; refine hK _ ?_; clear hK K))
                      refine wpSeq_act (by rfl) (fun K hK => ?_)
                      go_simp
                      refine (lgeneration_any u _ _ l2 p W3 h10.right).mono ?_
                      rintro e w10 ⟨rfl, rfl⟩
                      try dsimp only
                      try simp only [Act.put, List.setIfInBounds_toArray, List.set_cons_zero, List.set_cons_succ]
                      refine hK _ _ (_) ((fun _ h => h)) ⟨e9, h10⟩ ?_
                      clear hK K
                      repeat (first
                        | (refine wpSeq_run (by rfl) ⟨e9, h10⟩ (fun K hK => ⟨?_, ?_, ?_⟩); rotate_left; (· (intro wS hSw; have g1 := hSw.1; go_simp <;> with_reducible rfl)); simp only [Act.put, List.setIfInBounds_toArray, List.set_cons_zero, List.set_cons_succ]; refine hK _ ?_; clear hK K)
                        | (refine wpSeq_skip (by rfl) ⟨e9, h10⟩ (fun K hK => ?_); simp only [Act.put, List.setIfInBounds_toArray, List.set_cons_zero, List.set_cons_succ]; refine hK _ ?_; clear hK K))
                      refine wpSeq_end ?_
                      have H10 := Lib.hid h10.right
                      have HB1 := Lib.hid hb1
                      have HB2' := Lib.hid hb2
                      clear h9 hS9 h10 e9 hb1 hb2
                      refine hmet _ _ ?_
                      go_meet
                      by_cases hg0 : 0 < W3.gen
                      · refine ⟨true, by simpa using hg0, .inl ⟨rfl, ?_, ?_⟩, H10.out⟩
                        · have e1 := HB1.out
                          rw [str_toList, str_toList] at e1
                          simpa using e1
                        · have e1 := HB2'.out
                          simpa using e1
                      · refine ⟨false, by simpa using hg0, .inr ⟨rfl, ?_⟩, H10.out⟩
                        rcases HCASE.out with h | ⟨_, h, _⟩
                        · exact h
                        · rw [HK3.out.gen] at hg0
                          exact absurd h hg0
            case rest =>
              obtain ⟨r, rfl, hr, h10⟩ := hcut
              have HR := Lib.hid hr
              clear hr h9 e8
              have e2 : wc.cell? ⟨bx, 2, none⟩ = some (.slice ab x.b.length cb) := by
                have h11 : Sat u wc (own bx XO * _) := h10.eq (show _ = own bx XO * (isL l2 p W3 * (isD p d3 * (ownS (.slice av2 R.length cv2) R * F))) by ac_rfl)
                rw [← HXO.out] at h11
                exact h11.cell 2
              go_upto_if 148 with fail
              go_cut [8, 9, 10] (fun t8 t9 t10 wx => Back u (own bx XO * F) p l2 TT d3 W3 t8 t9 t10 wx)
              case first J K' hJ hmet =>
                rcases r with _ | _
                · have H10 := Lib.hid h10
                  clear h10 e2
                  go_wp2_with fail
                  go_meet
                  rcases HR.out with ⟨h, _⟩ | ⟨_, h1, h2, h3⟩
                  · cases h
                  · obtain ⟨_, _, ka, _, k, kr, k0, k1⟩ := HK3.out
                    rw [h2] at kr k1
                    rw [h3] at k0
                    have kl : W3.recs.length = k := by rw [kr, List.length_take]; omega
                    exact ⟨R, sure, av2, cv2, by rw [ka, h1], rfl, rfl, HB2.out, by rw [kl]; exact kr, by omega, by omega, H10.out.eq (by ac_rfl)⟩
                · have cs1 := run_string_of (P := Tryz.prog) (HBS.out wc h10.right.right.right.right) 34 9 5 Tryz.underlying34 Tryz.underlying5 Tryz.underlying9
                  have H10 := Lib.hid h10
                  clear h10
                  go_wp2_with fail
                  go_meet
                  rcases HR.out with ⟨_, h1, h2⟩ | ⟨h, _⟩
                  · refine ⟨[], 0, none, 0, by rw [h1], rfl, rfl, Nat.zero_le _, by rw [h2]; rfl, Nat.zero_le _, by rw [h2]; exact Nat.le_refl _, Sat.row_nil ?_⟩
                    exact (H10.out.eq (show _ = ownS (.slice av2 R.length cv2) R * (isL l2 p W3 * (isD p d3 * (own bx XO * F))) by ac_rfl)).right
                  · cases h
              case rest =>
                clear h10 e2
                obtain ⟨R4, sure4, av4, cv4, rfl, rfl, rfl, hb4, hr4, hs4, hl4, h11⟩ := hcut
                obtain ⟨hcap4, hcap5⟩ := h11.ownS_cap.2
                have HR4 := Lib.hid hr4
                have HB4 := Lib.hid hb4
                have hall : (W3.sure : Int) = W3.recs.length := by rw [HK3.out.all]
                have HALL := Lib.hid hall
                clear hr4 hb4 hall
                have z1 : ¬ ((W3.recs.length : Int) < sure4) := by omega
                have z2 : ¬ ((R4.length : Int) < W3.recs.length) := by omega
                have h12 : Sat u wc (isL l2 p W3 * (isD p d3 * (ownS (.slice av4 R4.length cv4) R4 * (own bx XO * F)))) := h11.eq (by ac_rfl)
                clear h11
                go_wp2_with fail
                refine (lstate_any u _ _ l2 p W3 h12).mono ?_
                rintro e w9 ⟨sa, sc, rfl, h13⟩
                dsimp only
                have cs1 := run_string_of (P := Tryz.prog) h13.bytes 34 9 5 Tryz.underlying34 Tryz.underlying5 Tryz.underlying9
                replace h13 := h13.right
                clear h12
                go_wp2_with fail
                refine (lcount_any u _ _ l2 p W3 h13).mono ?_
                rintro e w10 ⟨rfl, rfl⟩
                dsimp only
                clear cs1
                go_wp2_with fail
                refine (lcount_any u _ _ l2 p W3 h13).mono ?_
                rintro e w10 ⟨rfl, rfl⟩
                dsimp only
                go_wp2_with fail
                refine (lsure_any u _ _ l2 p W3 h13).mono ?_
                rintro e w10 ⟨rfl, rfl⟩
                dsimp only
                rw [HALL.out]
                go_wp2_with fail
                refine (lcount_any u _ _ l2 p W3 h13).mono ?_
                rintro e w10 ⟨rfl, rfl⟩
                dsimp only
                go_wp2_with fail
                go_loopw [16] (fun t16 wq => ∃ k : Nat, k ≤ W3.recs.length ∧ t16 = .int .i64 k ∧ Sat u wq (isL l2 p W3 * (isD p d3 * (ownS (.slice av4 R4.length cv4) R4 * (own bx XO * F))))) (fun i _ => W3.recs.length - (intOf i).toNat)
                case atStart => exact ⟨0, Nat.zero_le _, rfl, h13⟩
                case round =>
                  clear h13
                  obtain ⟨k, hk, rfl, h14⟩ := hrel
                  go_wp2_with fail
                  refine (lcount_any u _ _ l2 p W3 h14).mono ?_
                  rintro e w10 ⟨rfl, rfl⟩
                  dsimp only
                  by_cases hkl3 : k < W3.recs.length
                  · obtain ⟨rb, hrb⟩ : ∃ rb, W3.recs[k]? = some rb := ⟨_, List.getElem?_eq_getElem hkl3⟩
                    have hrb4 : R4[k]? = some rb := by
                      have e1 := hrb
                      rw [HR4.out, List.getElem?_take, if_pos hkl3] at e1
                      exact e1
                    obtain ⟨gr, rfl, hcell⟩ := Sat.ownS_at (h14.eq (show _ = ownS (.slice av4 R4.length cv4) R4 * (isL l2 p W3 * (isD p d3 * (own bx XO * F))) by ac_rfl)) hrb4
                    have HRB := Lib.hid hrb
                    have HCELL := Lib.hid hcell
                    have y3 : (k : Int) < W3.recs.length := by omega
                    have y4 : (k : Int) < R4.length := by omega
                    clear hrb hrb4 hcell
                    go_wp2_with fail
                    refine (lrecord_yes u _ _ l2 p W3 k rb HRB.out h14).mono ?_
                    rintro e w11 ⟨ra, rc, rfl, h15⟩
                    dsimp only
                    clear h14
                    go_upto_region 50 with fail
                    refine wp_region_seq [(0, true), (1, true), (2, true), (3, true), (4, true), (5, true), (6, true)] (fun wS => Sat u wS (ownB (.slice ra rb.length rc) rb * (isL l2 p W3 * (isD p d3 * (ownS (.slice (some ⟨gr, 0, none⟩) R4.length cv4) R4 * (own bx XO * F)))))) (by kernel_rfl) (by kernel_rfl) (fun _ _ _ _ _ h => h) ?_
                    simp only [pickOps, Array.getD_eq_getD_getElem?, List.getElem?_toArray, List.getElem?_cons_succ, List.getElem?_cons_zero, Option.getD_some]
                    repeat (first
                      | (refine wpSeq_run (by rfl) h15.drew (fun K hK => ⟨?_, ?_, ?_⟩); rotate_left; (· (intro wS hSw; have g2 := run_string_of (P := Tryz.prog) hSw.bytes 34 9 5 Tryz.underlying34 Tryz.underlying5 Tryz.underlying9; have g3 := HCELL.out wS (hSw.right.eq (by ac_rfl)); go_simp <;> with_reducible rfl)); simp only [Act.put, List.setIfInBounds_toArray, List.set_cons_zero, List.set_cons_succ]; refine hK _ ?_; clear hK K)
                      | (refine wpSeq_skip (by rfl) h15.drew (fun K hK => ?_); simp only [Act.put, List.setIfInBounds_toArray, List.set_cons_zero, List.set_cons_succ]; refine hK _ ?_; clear hK K))
                    refine wpSeq_end ?_
                    have h16 := h15.drew.right
                    generalize w11.drew = w12 at h16 ⊢
                    clear h15
                    go_wp2_with fail
                    go_roundw
                    case rel => exact ⟨k + 1, by omega, by go_num, h16⟩
                    case measure => simp [intOf]; omega
                  · have e : k = W3.recs.length := by omega
                    subst e
                    go_wp2_with fail
                    refine (lcount_any u _ _ l2 p W3 h14).mono ?_
                    rintro e w11 ⟨rfl, rfl⟩
                    dsimp only
                    have z5 : (W3.recs.length : Int) ≤ cv4 := by omega
                    have h15 := (h14.eq (show _ = ownS (.slice av4 R4.length cv4) R4 * (isL l2 p W3 * (isD p d3 * (own bx XO * F))) by ac_rfl)).ownS_take hl4
                    rw [← HR4.out] at h15
                    clear h14 hkl3
                    go_wp2_with fail
                    go_roundw
                    case rel =>
                      have hbt := recsB_len_mono R4 1 W3.recs.length R4.length hl4
                      rw [List.take_length, ← HR4.out] at hbt
                      exact ⟨j + 1, l2, W3, d3, av4, cv4, hlt, rfl, rfl, rfl, by rw [HALL.out], by go_num, by go_num, HK3.out.inv, by rw [HK3.out.gen]; exact hg3, by rw [HTT.out]; exact Nat.le_trans hbt HB4.out, h15.drop4⟩
                    case measure => simp [intOf]; omega
    · have e : j = n := by omega
      subst e
      have H5 := Lib.hid h5.right.right.right
      clear h5 hI
      go_wp2_with fail
      refine (wworks_any u _ F H5.out).mono ?_
      rintro e w4 ⟨rfl, h6⟩
      dsimp only
      go_wp2_with fail
      go_ret
      exact ⟨rfl, h6⟩
end
end Go.Proofs.YtlfmkiclaijokaaGreatDoor
