/- A region that draws its order, walked once: what may be taken at once is taken first (it yields the same in every world that the condition S lets by), what changes the world comes alone; S grows behind each of these. After the guide's own wpAnyH. No program in sight. -/
import Derived.OrdersHeld
import Derived.WalkKit
import Derived.KernelRfl
namespace Go.Proofs.Ytojgdejofpafkaa

section
variable {P : Program} {ops : Array Oper} {Q : Exit → Act → World → Prop}

def okSeq (ops : Array Oper) : List (Nat × Bool) → Array Bool → Bool
  | [], l => (Region.ready .any ops l).isEmpty
  | (i, true) :: rest, l => (ops[i]?).isSome && Region.free .any ops l i && (Region.ready .any ops l).contains i && okSeq ops rest (l.setIfInBounds i true)
  | (i, false) :: rest, l => (ops[i]?).isSome && (Region.ready .any ops l == [i]) && okSeq ops rest (l.setIfInBounds i true)

/-- The operations in the order in which they are walked, written out. -/
def pickOps (ops : Array Oper) : List (Nat × Bool) → List (Oper × Bool)
  | [] => []
  | (i, b) :: rest => (ops.getD i default, b) :: pickOps ops rest

def wpSeq (P : Program) (ops : Array Oper) (Q : Exit → Act → World → Prop) : List (Oper × Bool) → (World → Prop) → Act → World → Prop
  | [], _, a, w => Q .normal a w
  | (o, true) :: rest, S, a, w => ∃ v, YieldsIf P ops S o v a ∧ S w ∧ wpSeq P ops Q rest S (a.put o.dst v) w
  | (o, false) :: rest, S, a, w => if Region.wanted o (yielded ops a.tmps) then o.wp P a w (fun a' w' => ∃ S' : World → Prop, (∀ x, S' x → S x) ∧ S' w' ∧ wpSeq P ops Q rest S' a' w') Q
      else S w ∧ wpSeq P ops Q rest S (a.put o.dst undef) w

theorem wpAnyH_mono {md : Region.Mode} {S S' : World → Prop} (hs : ∀ x, S' x → S x) : ∀ (fuel : Nat) (l : Array Bool) (a : Act) (w : World), wpAnyH P md ops Q S' fuel l a w → wpAnyH P md ops Q S fuel l a w
  | 0, _, _, _, h => h
  | fuel + 1, _, _, _, h => ⟨h.1, fun i hi => wpOp_mono (fun a' w' h' => ⟨hs _ h'.1, wpAnyH_mono hs fuel _ a' w' h'.2⟩) (h.2 i hi)⟩

theorem wpSeq_sound (hsel : Region.noSelect ops = true) (hQ : ∀ c (a : Act) d v w, Q (.panic c) (a.put d v) w → Q (.panic c) a w) :
    ∀ (ord : List (Nat × Bool)) (l : Array Bool) (S : World → Prop) (a : Act) (w : World), okSeq ops ord l = true → wpSeq P ops Q (pickOps ops ord) S a w → wpAnyH P .any ops Q S ord.length l a w
  | [], l, S, a, w, hok, h => wpAnyH_done (by simpa [okSeq] using hok) h _
  | (i, true) :: rest, l, S, a, w, hok, h => by
    simp only [okSeq, Bool.and_eq_true] at hok
    obtain ⟨⟨⟨h1, h2⟩, h3⟩, h4⟩ := hok
    obtain ⟨v, hy, hS, h⟩ := h
    obtain ⟨o, ho⟩ := Option.isSome_iff_exists.1 h1
    have hg : ops.getD i default = o := by simp [Array.getD_eq_getD_getElem?, ho]
    rw [hg] at hy h
    exact wpAnyH_take ho hsel h2 h3 (fun c a w => hQ c a _ _ w) hy hS (wpSeq_sound hsel hQ rest _ S _ w h4 h)
  | (i, false) :: rest, l, S, a, w, hok, h => by
    simp only [okSeq, Bool.and_eq_true] at hok
    obtain ⟨⟨h1, h2⟩, h4⟩ := hok
    have h2' : Region.ready .any ops l = [i] := by simpa using h2
    obtain ⟨o, ho⟩ := Option.isSome_iff_exists.1 h1
    have hg : ops.getD i default = o := by simp [Array.getD_eq_getD_getElem?, ho]
    refine wpAnyH_all h2' (by simp) fun j hj => ?_
    obtain rfl : j = i := by simpa using hj
    simp only [pickOps, wpSeq, hg] at h
    unfold wpOp
    rw [ho]
    dsimp only
    split
    · next hw =>
      rw [if_pos hw] at h
      refine .inl (Oper.wp_mono ?_ h)
      rintro a' w' ⟨S', hS, hw, h'⟩
      exact ⟨hS _ hw, wpAnyH_mono hS _ _ _ _ (wpSeq_sound hsel hQ rest _ S' a' w' h4 h')⟩
    · next hw =>
      rw [if_neg hw] at h
      exact ⟨h.1, wpSeq_sound hsel hQ rest _ S _ w h4 h.2⟩

def okRegion (ops : Array Oper) (ord : List (Nat × Bool)) : Bool := okSeq ops ord (Array.replicate ops.size false) && Region.noSelect ops && ord.length == ops.size

/-- THE BEGINNING. -/
theorem wp_region_seq {id : Nat} {a : Act} {w : World} (ord : List (Nat × Bool)) (S : World → Prop) (hm : P.follows .mixedOrders = true) (hok : okRegion ops ord = true)
    (hQ : ∀ c (a : Act) (i : Nat) v w, Q (.panic c) (a.put (some i) v) w → Q (.panic c) a w) (h : wpSeq P ops Q (pickOps ops ord) S a w.drew) : (Code.region id ops true).wp P Q a w := by
  simp only [okRegion, Bool.and_eq_true, beq_iff_eq] at hok
  obtain ⟨⟨h1, h2⟩, h3⟩ := hok
  refine wp_region_held (S := S) hm ?_
  have hQ' : ∀ c (a : Act) d v w, Q (.panic c) (a.put d v) w → Q (.panic c) a w := fun c a d v w h => by
    cases d with
    | none => exact h
    | some i => exact hQ c a i v w h
  have := wpSeq_sound h2 hQ' ord _ S a _ h1 h
  rw [h3] at this
  exact this

variable {rest : List (Oper × Bool)} {S : World → Prop} {a : Act} {w : World} {o : Oper}

/-- What may be taken at once. -/
theorem wpSeq_run (hw : Region.wanted o (yielded ops a.tmps) = true) (hS : S w)
    (h : ∀ K : Act → Prop, (∀ a, wpSeq P ops Q rest S a w → K a) → ∃ v, (∀ w', S w' → (execOp a.eval o).run P w' = .ok (.value v) w') ∧ K (a.put o.dst v)) : wpSeq P ops Q ((o, true) :: rest) S a w := by
  obtain ⟨v, hv, hk⟩ := h _ fun _ h => h
  exact ⟨v, .inl ⟨hw, hv⟩, hS, hk⟩

/-- What its guard passes over. -/
theorem wpSeq_skip (hw : Region.wanted o (yielded ops a.tmps) = false) (hS : S w)
    (h : ∀ K : Act → Prop, (∀ a, wpSeq P ops Q rest S a w → K a) → K (a.put o.dst undef)) : wpSeq P ops Q ((o, true) :: rest) S a w :=
  ⟨undef, .inr ⟨hw, rfl⟩, hS, h _ fun _ h => h⟩

/-- What changes the world. -/
theorem wpSeq_act (hw : Region.wanted o (yielded ops a.tmps) = true)
    (h : ∀ K : Act → World → Prop, (∀ a' w' (S' : World → Prop), (∀ x, S' x → S x) → S' w' → wpSeq P ops Q rest S' a' w' → K a' w') → o.wp P a w K Q) : wpSeq P ops Q ((o, false) :: rest) S a w := by
  unfold wpSeq
  rw [if_pos hw]
  exact h _ fun a' w' S' h1 h2 h3 => ⟨S', h1, h2, h3⟩

theorem wpSeq_pass (hw : Region.wanted o (yielded ops a.tmps) = false) (hS : S w)
    (h : ∀ K : Act → Prop, (∀ a, wpSeq P ops Q rest S a w → K a) → K (a.put o.dst undef)) : wpSeq P ops Q ((o, false) :: rest) S a w := by
  unfold wpSeq
  rw [if_neg (by rw [hw]; simp)]
  exact ⟨hS, h _ fun _ h => h⟩

theorem wpSeq_end (h : Q .normal a w) : wpSeq P ops Q [] S a w := h

theorem getD_of {l : List Oper} {i : Nat} {o : Oper} (h : l[i]? = some o) : l.toArray.getD i default = o := by simp [Array.getD_eq_getD_getElem?, h]
end
#print axioms wp_region_seq
end Go.Proofs.Ytojgdejofpafkaa
