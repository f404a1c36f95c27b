/- A region of which, behind what may be taken at once, either of two operations may come first. -/
import Derived.Test.YtojgdejofpafkaaRegion
namespace Go.Proofs.Ytojgdejofpafkaa

section
variable {P : Program} {ops : Array Oper} {Q : Exit → Act → World → Prop}

theorem act_one (hsel : Region.noSelect ops = true) (hQ : ∀ c (a : Act) d v w, Q (.panic c) (a.put d v) w → Q (.panic c) a w) {i : Nat} {rest : List (Nat × Bool)} {l : Array Bool} {S : World → Prop} {a : Act} {w : World}
    (h1 : (ops[i]?).isSome = true) (h4 : okSeq ops rest (l.setIfInBounds i true) = true) (h : wpSeq P ops Q (pickOps ops ((i, false) :: rest)) S a w) :
    wpOp P ops Q i (fun a' w' => S w' ∧ wpAnyH P .any ops Q S rest.length (l.setIfInBounds i true) a' w') a w := by
  obtain ⟨o, ho⟩ := Option.isSome_iff_exists.1 h1
  have hg : ops.getD i default = o := by simp [Array.getD_eq_getD_getElem?, ho]
  simp only [pickOps, wpSeq, hg] at h
  unfold wpOp
  rw [ho]
  dsimp only
  split
  · next hw =>
    rw [if_pos hw] at h
    refine .inl (Oper.wp_mono ?_ h)
    rintro a' w' ⟨S', hS, hw, h'⟩
    exact ⟨hS _ hw, wpAnyH_mono hS _ _ _ _ (wpSeq_sound hsel hQ rest _ S' a' w' h4 h')⟩
  · next hw =>
    rw [if_neg hw] at h
    exact ⟨h.1, wpSeq_sound hsel hQ rest _ S _ w h4 h.2⟩

/-- What is listed behind the takes, and that they may be taken. -/
def okTakes (ops : Array Oper) : List Nat → Array Bool → Bool
  | [], _ => true
  | i :: rest, l => (ops[i]?).isSome && Region.free .any ops l i && (Region.ready .any ops l).contains i && okTakes ops rest (l.setIfInBounds i true)

def behindTakes : List Nat → Array Bool → Array Bool
  | [], l => l
  | i :: rest, l => behindTakes rest (l.setIfInBounds i true)

theorem takes_sound (hsel : Region.noSelect ops = true) (hQ : ∀ c (a : Act) d v w, Q (.panic c) (a.put d v) w → Q (.panic c) a w) {T : Act → World → Prop} {S : World → Prop} {fuel : Nat} :
    ∀ (ord : List Nat) (l : Array Bool) (a : Act) (w : World), okTakes ops ord l = true → (∀ a w, T a w → wpAnyH P .any ops Q S fuel (behindTakes ord l) a w) →
      wpSeq P ops (fun _ a w => T a w) (pickOps ops (ord.map fun i => (i, true))) S a w → wpAnyH P .any ops Q S (fuel + ord.length) l a w
  | [], _, a, w, _, hT, h => hT a w h
  | i :: rest, l, a, w, hok, hT, h => by
    simp only [okTakes, Bool.and_eq_true] at hok
    obtain ⟨⟨⟨h1, h2⟩, h3⟩, h4⟩ := hok
    obtain ⟨v, hy, hS, h⟩ := h
    obtain ⟨o, ho⟩ := Option.isSome_iff_exists.1 h1
    have hg : ops.getD i default = o := by simp [Array.getD_eq_getD_getElem?, ho]
    rw [hg] at hy h
    exact wpAnyH_take ho hsel h2 h3 (fun c a w => hQ c a _ _ w) hy hS (takes_sound hsel hQ rest _ _ w h4 hT h)

def okFork (ops : Array Oper) (ord : List Nat) (i j : Nat) (oi oj : List (Nat × Bool)) : Bool :=
  let l := Array.replicate ops.size false
  let m := behindTakes ord l
  okTakes ops ord l && Region.noSelect ops && (Region.ready .any ops m == [i, j]) && (ops[i]?).isSome && (ops[j]?).isSome && okSeq ops oi (m.setIfInBounds i true) && okSeq ops oj (m.setIfInBounds j true) &&
    (oi.length == oj.length) && (oi.length + 1 + ord.length == ops.size)

theorem wp_region_fork {id : Nat} {a : Act} {w : World} (ord : List Nat) (i j : Nat) (oi oj : List (Nat × Bool)) (S : World → Prop) (hm : P.follows .mixedOrders = true) (hok : okFork ops ord i j oi oj = true)
    (hQ : ∀ c (a : Act) (i : Nat) v w, Q (.panic c) (a.put (some i) v) w → Q (.panic c) a w)
    (h : wpSeq P ops (fun _ a w => wpSeq P ops Q (pickOps ops ((i, false) :: oi)) S a w ∧ wpSeq P ops Q (pickOps ops ((j, false) :: oj)) S a w) (pickOps ops (ord.map fun i => (i, true))) S a w.drew) :
    (Code.region id ops true).wp P Q a w := by
  simp only [okFork, Bool.and_eq_true, beq_iff_eq] at hok
  obtain ⟨⟨⟨⟨⟨⟨⟨⟨h1, h2⟩, h3⟩, h4⟩, h5⟩, h6⟩, h7⟩, h8⟩, h9⟩ := hok
  refine wp_region_held (S := S) hm ?_
  have hQ' : ∀ c (a : Act) d v w, Q (.panic c) (a.put d v) w → Q (.panic c) a w := fun c a d v w h => by
    cases d with
    | none => exact h
    | some i => exact hQ c a i v w h
  have := takes_sound (fuel := oi.length + 1) h2 hQ' ord _ a _ h1 (fun a w hT => ?_) h
  · rw [h9] at this
    exact this
  · refine wpAnyH_all h3 (by simp) fun k hk => ?_
    rcases List.mem_cons.1 hk with rfl | hk
    · exact act_one h2 hQ' h4 h6 hT.1
    · obtain rfl : k = j := by simpa using hk
      rw [h8]
      exact act_one h2 hQ' h5 h7 hT.2
end
end Go.Proofs.Ytojgdejofpafkaa
