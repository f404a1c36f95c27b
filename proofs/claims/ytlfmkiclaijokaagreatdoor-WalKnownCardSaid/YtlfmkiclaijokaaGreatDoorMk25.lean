/- Arguments opened: rows of bytes, of numbers, of calls. -/
import Derived.Test.YtlfmkiclaijokaaGreatDoorMk24
import Derived.ProofKit
import Derived.Deep.Slices
import Derived.Deep.Fields
import Derived.ChangeSame
namespace Go.Proofs.YtlfmkiclaijokaaGreatDoor
open Go.ChangeShapes Go.WideShapes Go.RowKit Go.Deep

section
variable {H : Type} {enc : TypeId × Value → H} {P : Program} {w : World} {base : Nat} {spare : Nat → Bool} {held : Bool}

theorem bytes_of_trod {t e : TypeId} {fuel : Nat} (ht : P.underlying t = some (.slice e)) (he : P.underlying e = some (.int .u8)) (hC : P.cellsOf e = 1) {v : Value} {y : DataW H × List MemPlace}
    (h : DataW.trod enc P w base spare held fuel t [v] = some y) : ∃ xs, BytesAt w v xs := by
  rcases open_ints ht he hC h with ⟨hcs, _⟩ | ⟨x, l, c, zs, hcs, _, hl, hm, hz, _, hcell, hwz⟩
  · cases hcs
    exact ⟨[], .inl ⟨rfl, rfl, rfl⟩⟩
  · cases hcs
    refine ⟨(zs.take l).map fun z => UInt8.ofNat z.toNat, ?_⟩
    have hz' : l ≤ zs.length := by rw [hz]; split <;> omega
    have hl' : ((zs.take l).map fun z => UInt8.ofNat z.toNat).length = l := by simp; omega
    unfold BytesAt
    rw [hl']
    refine .inr ⟨x, c, rfl, hl, hm, fun j u hu => ?_⟩
    simp only [List.getElem?_map, Option.map_eq_some_iff] at hu
    obtain ⟨c, ⟨z, hz1, rfl⟩, rfl⟩ := hu
    rw [List.getElem?_take] at hz1
    split at hz1
    · have hj : j < zs.length := (List.getElem?_eq_some_iff.1 hz1).1
      rw [hcell j hj]
      have e1 : zs.getD j 0 = z := by simp [List.getD, hz1]
      have hw := hwz z (List.mem_of_getElem? hz1)
      have hb : 0 ≤ z ∧ z < 256 := by
        simp [Lit.wf, IntKind.min, IntKind.max, IntKind.signed, IntKind.bits] at hw
        omega
      rw [e1]
      have e2 : (UInt8.ofNat z.toNat).toNat = z.toNat := by simp; omega
      rw [B, e2, Int.toNat_of_nonneg hb.1]
    · cases hz1

theorem ints_of_trod {t e : TypeId} {fuel : Nat} (ht : P.underlying t = some (.slice e)) (he : P.underlying e = some (.int .i64)) (hC : P.cellsOf e = 1) {v : Value} {y : DataW H × List MemPlace}
    (h : DataW.trod enc P w base spare held fuel t [v] = some y) : ∃ xs, IntsAt w v xs ∧ ∀ x ∈ xs, -9223372036854775808 ≤ x ∧ x ≤ 9223372036854775807 := by
  rcases open_ints ht he hC h with ⟨hcs, _⟩ | ⟨x, l, c, zs, hcs, _, hl, hm, hz, _, hcell, hwz⟩
  · cases hcs
    exact ⟨[], .inl ⟨rfl, rfl, rfl⟩, fun x hx => by cases hx⟩
  · cases hcs
    have hz' : l ≤ zs.length := by rw [hz]; split <;> omega
    have hl' : (zs.take l).length = l := by simp; omega
    refine ⟨zs.take l, ?_, fun z hz => ?_⟩
    · unfold IntsAt
      rw [hl']
      refine .inr ⟨x, c, rfl, hl, hm, fun j u hu => ?_⟩
      simp only [List.getElem?_map, Option.map_eq_some_iff] at hu
      obtain ⟨z, hz1, rfl⟩ := hu
      rw [List.getElem?_take] at hz1
      split at hz1
      · have hj : j < zs.length := (List.getElem?_eq_some_iff.1 hz1).1
        rw [hcell j hj]
        have e1 : zs.getD j 0 = z := by simp [List.getD, hz1]
        rw [e1]
      · cases hz1
    · have hw := hwz z (List.mem_of_mem_take hz)
      simp [Lit.wf, IntKind.min, IntKind.max, IntKind.signed, IntKind.bits] at hw
      omega

/-- A slice of structs of one-cell fields (after the guide's own page on structs). -/
theorem open_slice_fields {t e : TypeId} {fs : Array Field} {fuel : Nat} {cs : List Value} {x : DataW H × List MemPlace} (ht : P.underlying t = some (.slice e)) (he : P.underlying e = some (.struct fs))
    (hone : oneCellFields P fs = true) (hC : P.cellsOf e = fs.size) (h : DataW.trod enc P w base spare held fuel t cs = some x) :
    (cs = [.slice none 0 0] ∧ x = (.nil, [])) ∨
    ∃ (a : Addr) (len cap : Nat), cs = [.slice (some a) len cap] ∧ len ≤ cap ∧ cap ≤ maxLen ∧
      ∀ i, i < len → ∃ (n : Nat),
        ∀ (j : Nat) (f : Field), fs[j]? = some f → ∃ (v : Value) (y : DataW H × List MemPlace), w.cell? (a.add (i * fs.size + j)) = some v ∧ DataW.trod enc P w base spare held n f.type [v] = some y := by
  rcases open_slice ht h with h0 | ⟨a, len, cap, m, n, D, Pl, hcs, hb, hl, hm, hmm, hx, hi⟩
  · exact .inl h0
  · refine .inr ⟨a, len, cap, hcs, hl, hm, fun i hil => ?_⟩
    have him : i < m := by rw [hmm]; split <;> omega
    obtain ⟨cs', hc, ht'⟩ := hi i him
    rw [hC] at hc
    obtain ⟨ys, n', hn', hy, hlen, hyl, hf⟩ := DataW.trod_struct he ht'
    obtain ⟨_, hcl, hat⟩ := World.cells?_some hc
    refine ⟨n', fun j f hj => ?_⟩
    obtain ⟨ho, hk⟩ := hone_of hone j f hj
    have hjl : j < fs.size := (Array.getElem?_eq_some_iff.1 hj).1
    have hcell := hat j hjl
    have hv : cs'[j]? = some (cs'[j]'(by omega)) := List.getElem?_eq_getElem (by omega)
    have h1 := hf j f hj
    rw [ho, hk] at h1
    have hone' : (cs'.drop j).take 1 = [cs'[j]'(by omega)] := by
      rw [List.drop_eq_getElem_cons (by omega)]
      rfl
    rw [hone'] at h1
    have hys : ys[j]? = some (ys[j]'(by omega)) := List.getElem?_eq_getElem (by omega)
    refine ⟨_, _, ?_, h1.trans hys⟩
    rw [← Go.Deep.add_add, hcell, hv]
end

theorem CallsAt.of {w : World} {a : Addr} {n c : Nat} (hle : n ≤ c) (hm : c ≤ 9223372036854775807)
    (h : ∀ i, i < n → ∃ x : CallV, OkCall x ∧ BytesAt w x.vb x.b ∧ IntsAt w x.vk x.keep ∧ w.cell? (a.add (i * 5)) = some (.int .u8 (x.kind : Nat)) ∧ w.cell? (a.add (i * 5 + 1)) = some (.string x.name) ∧ w.cell? (a.add (i * 5 + 2)) = some x.vb ∧
      w.cell? (a.add (i * 5 + 3)) = some (.int .i64 x.n) ∧ w.cell? (a.add (i * 5 + 4)) = some x.vk) :
    ∃ cs, CallsAt w (some a) n c cs := by
  have h' : ∀ i, ∃ x : CallV, i < n → OkCall x ∧ BytesAt w x.vb x.b ∧ IntsAt w x.vk x.keep ∧ w.cell? (a.add (i * 5)) = some (.int .u8 (x.kind : Nat)) ∧ w.cell? (a.add (i * 5 + 1)) = some (.string x.name) ∧ w.cell? (a.add (i * 5 + 2)) = some x.vb ∧
      w.cell? (a.add (i * 5 + 3)) = some (.int .i64 x.n) ∧ w.cell? (a.add (i * 5 + 4)) = some x.vk := by
    intro i
    by_cases hi : i < n
    · obtain ⟨x, hx⟩ := h i hi
      exact ⟨x, fun _ => hx⟩
    · exact ⟨⟨0, ByteArray.empty, [], .slice none 0 0, 0, [], .slice none 0 0⟩, fun h => absurd h hi⟩
  obtain ⟨f, hf⟩ := Classical.axiomOfChoice h'
  have hmem : ∀ x ∈ (List.range n).map f, ∃ i, i < n ∧ f i = x := fun x hx => by
    obtain ⟨i, hi, rfl⟩ := List.mem_map.1 hx
    exact ⟨i, List.mem_range.1 hi, rfl⟩
  refine ⟨(List.range n).map f, by simp, hle, hm, ?_, ?_, ?_, ?_⟩
  · intro x hx
    obtain ⟨i, hi, rfl⟩ := hmem x hx
    exact (hf i hi).1
  · intro x hx
    obtain ⟨i, hi, rfl⟩ := hmem x hx
    exact (hf i hi).2.1
  · intro x hx
    obtain ⟨i, hi, rfl⟩ := hmem x hx
    exact (hf i hi).2.2.1
  · rcases Nat.eq_zero_or_pos n with h0 | h0
    · exact .inl h0
    · obtain ⟨b, o, sp⟩ := a
      have hc := (hf 0 h0).2.2.2.1
      have hsp : sp = none := by
        cases sp with
        | none => rfl
        | some _ => simp [Addr.add, World.cell?] at hc; split at hc <;> simp at hc
      subst hsp
      refine .inr ⟨b, o, rfl, fun j x hx => ?_⟩
      have hj : j < n := by
        rcases Nat.lt_or_ge j n with h | h
        · exact h
        · rw [List.getElem?_eq_none (by simpa using h)] at hx; cases hx
      obtain rfl : f j = x := by
        rw [List.getElem?_map, List.getElem?_range hj] at hx
        exact Option.some.inj hx
      obtain ⟨_, _, _, c0, c1, c2, c3, c4⟩ := hf j hj
      rw [addr_add_at] at c0 c1 c2 c3 c4
      exact ⟨c0, by rw [Nat.add_assoc]; exact c1, by rw [Nat.add_assoc]; exact c2, by rw [Nat.add_assoc]; exact c3, by rw [Nat.add_assoc]; exact c4⟩

theorem open_calls {H : Type} {enc : TypeId × Value → H} {w : World} {base : Nat} {spare : Nat → Bool} {held : Bool} {a : Option Addr} {len cap : Nat} {d : DataW H} {ps : List MemPlace}
    (h : DataW.Trod enc Tryz.prog w base spare held 22 (.slice a len cap) d ps) : ∃ cs, CallsAt w a len cap cs := by
  obtain ⟨fuel, hf⟩ := h
  rcases open_slice_fields Tryz.underlying22 Tryz.underlying36 (by kernel_rfl) (by kernel_rfl) hf with ⟨hcs, _⟩ | ⟨x, l, c, hcs, hl, hm, hi⟩
  · simp [Value.cells] at hcs
    obtain ⟨rfl, rfl, rfl⟩ := hcs
    exact ⟨[], rfl, Nat.le_refl _, by omega, by simp, by simp, by simp, .inl rfl⟩
  · simp [Value.cells] at hcs
    obtain ⟨rfl, rfl, rfl⟩ := hcs
    have hm' : cap ≤ 9223372036854775807 := hm
    refine CallsAt.of hl hm' fun i hil => ?_
    obtain ⟨n, hj⟩ := hi i hil
    obtain ⟨v0, y0, c0, t0⟩ := hj 0 _ rfl
    obtain ⟨v1, y1, c1, t1⟩ := hj 1 _ rfl
    obtain ⟨v2, y2, c2, t2⟩ := hj 2 _ rfl
    obtain ⟨v3, y3, c3, t3⟩ := hj 3 _ rfl
    obtain ⟨v4, y4, c4, t4⟩ := hj 4 _ rfl
    obtain ⟨k, e0, _, w0⟩ := DataW.trod_int Tryz.underlying5 t0
    obtain ⟨s, e1, _, w1⟩ := DataW.trod_string Tryz.underlying9 t1
    obtain ⟨xs, hxs⟩ := bytes_of_trod Tryz.underlying34 Tryz.underlying5 (by kernel_rfl) t2
    obtain ⟨m, e3, _, w3⟩ := DataW.trod_int Tryz.underlying3 t3
    obtain ⟨zs, hzs, hzr⟩ := ints_of_trod Tryz.underlying23 Tryz.underlying3 (by kernel_rfl) t4
    cases e0
    cases e1
    cases e3
    have hs : s.size ≤ 9223372036854775807 := w1
    simp [Lit.wf, IntKind.min, IntKind.max, IntKind.signed, IntKind.bits] at w0 w3
    refine ⟨⟨k.toNat, s, xs, v2, m, zs, v4⟩, ⟨by show k.toNat < 256; omega, hs, by show _ ≤ m; omega, by show m ≤ _; omega, hzr⟩, hxs, hzs, ?_, c1, c2, c3, c4⟩
    show w.cell? _ = some (.int .u8 ((k.toNat : Nat) : Int))
    rw [Int.toNat_of_nonneg w0.1]
    exact c0

theorem CallsAt.below {w w' : World} {a : Option Addr} {n c : Nat} {cs : List CallV} (h : CallsAt w a n c cs) (hb : Below w.heap.size w w') : CallsAt w' a n c cs := by
  have key : ∀ {q : Addr} {v : Value}, w.cell? q = some v → w'.cell? q = some v := fun hq => (hb.cell (World.block_lt_of_cell? w _ hq)).trans hq
  refine ⟨h.len, h.le, h.most, h.ok, fun x hx => ?_, fun x hx => ?_, h.at_.imp id ?_⟩
  · rcases h.bs x hx with h | ⟨a, c, h1, h2, h3, h4⟩
    · exact .inl h
    · exact .inr ⟨a, c, h1, h2, h3, fun j y hy => key (h4 j y hy)⟩
  · rcases h.ks x hx with h | ⟨a, c, h1, h2, h3, h4⟩
    · exact .inl h
    · exact .inr ⟨a, c, h1, h2, h3, fun j y hy => key (h4 j y hy)⟩
  · rintro ⟨b, o, rfl, hc⟩
    exact ⟨b, o, rfl, fun j x hx => by
      obtain ⟨c0, c1, c2, c3, c4⟩ := hc j x hx
      exact ⟨key c0, key c1, key c2, key c3, key c4⟩⟩

theorem IntsAt.below {w w' : World} {v : Value} {xs : List Int} (h : IntsAt w v xs) (hb : Below w.heap.size w w') : IntsAt w' v xs := by
  rcases h with h | ⟨a, c, h1, h2, h3, h4⟩
  · exact .inl h
  · exact .inr ⟨a, c, h1, h2, h3, fun j y hy => (hb.cell (World.block_lt_of_cell? w _ (h4 j y hy))).trans (h4 j y hy)⟩
end Go.Proofs.YtlfmkiclaijokaaGreatDoor
