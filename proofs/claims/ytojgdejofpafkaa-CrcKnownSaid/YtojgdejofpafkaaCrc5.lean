/- crc.ahead. -/
import Derived.Test.YtojgdejofpafkaaCrc4
namespace Go.Proofs.Ytojgdejofpafkaa
open Go.RowKit Go.Shelf
set_option linter.unusedVariables false
attribute [local go_sem] Oper.semAt_some

def offN : Nat → BitVec 32 → BitVec 32
  | 0, r => r
  | t + 1, r => offB (offN t r)

def aheadL (r : BitVec 32) (l : List UInt8) : BitVec 32 := l.foldl (fun r c => offN 8 r ^^^ headB c) r

theorem aheadL_reverse (r : BitVec 32) (l : List UInt8) : aheadL r l.reverse = aheadB r l := by
  unfold aheadL aheadB
  rw [List.foldl_reverse]
  rfl

theorem aheadL_snoc (r : BitVec 32) (l : List UInt8) (c : UInt8) : aheadL r (l ++ [c]) = offN 8 (aheadL r l) ^^^ headB c := by
  unfold aheadL
  rw [List.foldl_append]
  rfl

theorem KeptBut.setCell (n r : Nat) (A : World) (v : Value) : KeptBut n r A (A.setCell ⟨r, 0, none⟩ v) := fun k _ hk => Below.heap_setCell _ _ _ _ hk

set_option maxRecDepth 100000 in
set_option maxHeartbeats 2000000 in
theorem ahead_below (w : World) (r : BitVec 32) (v : Value) (xs : List UInt8) (hcap : xs.length ≤ 1000000000) (hb : BytesAt w v xs) :
    Calls Try.prog 46 #[w32 r, v] w fun e w' => e = .returned (w32 (aheadB r xs)) ∧ Below w.heap.size w w' := by
  obtain ⟨a, c, rfl, ho1, ho2⟩ := RowAt.len hb
  refine (callsIn_wide (n := 3)).1 ?_
  refine callsIn_of_wp_marks Try.func46 rfl trivial ?_ rfl
  simp only [Try.ntmps46, List.size_toArray, List.length_cons, List.length_nil, Nat.reduceAdd, Nat.reduceSub, Array.replicate_succ, Array.replicate_zero, List.push_toArray, List.append_toArray, List.nil_append, List.cons_append]
  gi_wp2_with (refine ⟨trivial, ?_⟩; gi_at_call 51; refine (back_in Fence.wide _ trivial rfl _ _ _ _).mono ?_; rintro e w' ⟨rfl, rfl⟩)
  have sr := ((sat_allro w).alloc (.cells #[w32 r] 24)).alloc (.cells #[.slice a xs.length c] 22)
  rw [World.size_alloc] at sr
  have hbx := sr.cell 0
  have hcr := sr.s2.cell 0
  have hfr := sr.s2.free 0
  have hbl2 : Below w.heap.size w ((w.alloc (.cells #[w32 r] 24)).alloc (.cells #[.slice a xs.length c] 22)) := ((Below.refl _ w).alloc (Nat.le_refl _) _).alloc (by simp) _
  have hb2 := hb.below hbl2
  have hrb : ∀ b o c', (Value.slice a xs.length c) = .slice (some ⟨b, o, none⟩) xs.length c' → xs.length ≠ 0 → b ≠ w.heap.size := by
    intro b o c' e hx
    obtain ⟨b', o', c'', e', _, _, hc⟩ := hb.open (by omega)
    rw [e'] at e
    cases e
    have := World.block_lt_of_cell? w _ (hc 0 xs[0] (by simp))
    simp at this
    omega
  refine wpIn_rangeFunc_ownF rfl (by decide) (gf := 53) (lb := #[.pointer (some ⟨w.heap.size + 1, 0, none⟩)]) rfl trivial (enters_of Try.func53 (by kernel_rfl) rfl)
    (back_stops Fence.wide (3 - 1) trivial rfl (by decide) (w.heap.size + 1) w.heap.size (.slice a xs.length c) xs hcap _ (by omega) hbx hb2 hrb) KeptBut.trans
    (fun W l o o' hl _ _ _ k hk _ => World.putObj_heap_other (by omega)) (Below.refl _ _) (fun _ => rfl)
    (fun pre W => (W.cell? ⟨w.heap.size, 0, none⟩ = some (w32 (aheadL r (pre.map Prod.snd))) ∧ W.frozen? ⟨w.heap.size, 0, none⟩ = false) ∧ Below w.heap.size w W)
    (fun _ _ _ => False)
    (OwnFrom.and (Own.from (fun s A B row hs hg hr => ⟨cell_kept hs.1 hg hr, (frozen_kept hs.1 hg hr).trans hs.2⟩) _) (ownFrom_below (Nat.le_refl _) (by simp; omega)))
    (fun _ => Own.from (fun _ _ _ _ hs _ _ => hs) _)
    ⟨⟨hcr, hfr⟩, hbl2⟩
    (fun x => { tmps := #[w32 r, .slice a xs.length c, .pointer (some ⟨w.heap.size, 0, none⟩), undef, .int .u32 0, undef, .int .u8 (x.2.toNat : Int), .slice a xs.length c, .func (.func 53) #[] #[.pointer (some ⟨w.heap.size + 1, 0, none⟩)], .int .i64 (x.1 : Int), .int .u8 (x.2.toNat : Int), undef, undef, undef, undef, undef, undef, undef, undef, undef, undef, undef], defers := [] }) ?assign ?body ?done ?stop
  case assign =>
    intro l x W K hK
    gi_wp2
    exact hK
  case body =>
    rintro l pre x W ⟨⟨hc, hf⟩, hB⟩ _
    gi_wp2
    gi_loopw [11] (fun i W' => ∃ t : Nat, t ≤ 8 ∧ i = .int .i64 t ∧ W'.cell? ⟨w.heap.size, 0, none⟩ = some (w32 (offN t (aheadL r (pre.map Prod.snd)))) ∧ W'.frozen? ⟨w.heap.size, 0, none⟩ = false ∧ KeepsOthers W W' ∧ KeptBut (w.heap.size + 1 + 1) w.heap.size W W' ∧ Below w.heap.size w W') (fun i _ => 8 - (intOf i).toNat)
    case atStart => exact ⟨0, Nat.zero_le _, rfl, hc, hf, .refl _, .refl _ _ _, hB⟩
    case round =>
      obtain ⟨t, ht, rfl, hc', hf', hk1, hk2, hB'⟩ := hrel
      by_cases ht8 : t < 8
      · gi_wp2_with (refine ⟨trivial, ?_⟩; gi_at_call 52; refine (CallsIn.inRound l (callsIn_wide.2 (off_any _ _))).mono ?_; rintro e w' ⟨rfl, rfl⟩)
        have hk3 : KeptBut (w.heap.size + 1 + 1) w.heap.size W (wr.setCell ⟨w.heap.size, 0, none⟩ (w32 (offB (offN t (aheadL r (pre.map Prod.snd)))))) := hk2.trans (KeptBut.setCell _ _ _ _)
        have hk4 : KeepsOthers W (wr.setCell ⟨w.heap.size, 0, none⟩ (w32 (offB (offN t (aheadL r (pre.map Prod.snd)))))) := hk1.trans (KeepsOthers.setCell _ _ _)
        have hB4 := hB'.setCell (p := ⟨w.heap.size, 0, none⟩) (Nat.le_refl _) (w32 (offB (offN t (aheadL r (pre.map Prod.snd)))))
        have hc4 : (wr.setCell ⟨w.heap.size, 0, none⟩ (w32 (offB (offN t (aheadL r (pre.map Prod.snd)))))).cell? ⟨w.heap.size, 0, none⟩ = some (w32 (offB (offN t (aheadL r (pre.map Prod.snd))))) := World.cell?_setCell_same' _ _ _ (by rw [hc']; rfl)
        have hf4 : (wr.setCell ⟨w.heap.size, 0, none⟩ (w32 (offB (offN t (aheadL r (pre.map Prod.snd)))))).frozen? ⟨w.heap.size, 0, none⟩ = false := by rw [World.frozen?_setCell]; exact hf'
        refine ⟨⟨t + 1, ht8, by go_num, hc4, hf4, hk4, hk3, hB4⟩, ?_⟩
        simp [intOf]
        omega
      · have h8 : t = 8 := by omega
        subst h8
        gi_wp2
        have e : bits .xor .u32 ((offN 8 (aheadL r (pre.map Prod.snd))).toNat : Int) (HMod.hMod (HMul.hMul (HMod.hMod (x.2.toNat : Int) (4294967296 : Int)) (16777216 : Int)) (4294967296 : Int)) = ((aheadL r ((pre ++ [x]).map Prod.snd)).toNat : Int) := by
          rw [head_any, List.map_append, List.map_cons, List.map_nil, aheadL_snoc]
        rw [e]
        refine ⟨hk1.trans (KeepsOthers.setCell _ _ _), ?_, ⟨World.cell?_setCell_same' _ _ _ (by rw [hc']; rfl), by rw [World.frozen?_setCell]; exact hf'⟩, hB'.setCell (p := ⟨w.heap.size, 0, none⟩) (Nat.le_refl _) _⟩
        simp only [World.size_alloc]
        exact hk2.trans (KeptBut.setCell _ _ _ _)
  case done =>
    rintro D ys W hD hys ⟨⟨hc, _⟩, hB⟩ hK
    rw [hys, aheadL_reverse] at hc
    gi_wp2
    refine ⟨by simp, .inl ⟨_, _, rfl, run_takeDeferred hK, ?_⟩⟩
    refine ⟨_, results_tmp rfl _ _ _, ?_, ?_⟩
    · simp [Array.getD]
    · exact hB.trans (belowK_b (w := w) (Nat.le_refl _) W D _ _ (by simp at hD; omega) hK rfl rfl)
  case stop =>
    rintro D c pre W _ _ h _
    exact h.elim

theorem Sat.ofBelow {u w w' : World} {F : HProp} (h : Sat u w F) (hb : Below w.heap.size w w') : Sat u w' F := by
  obtain ⟨a1, a2, a3, _, hk⟩ := hb
  exact h.ext a1 a2 a3 hk

theorem ahead_any (u w : World) (F : HProp) (r : BitVec 32) (v : Value) (xs : List UInt8) (hcap : xs.length ≤ 1000000000) (hb : BytesAt w v xs) (hs : Sat u w F) :
    Calls Try.prog 46 #[w32 r, v] w fun e w' => e = .returned (w32 (aheadB r xs)) ∧ Sat u w' F :=
  (ahead_below w r v xs hcap hb).mono fun _ _ h => ⟨h.1, hs.ofBelow h.2⟩
end Go.Proofs.Ytojgdejofpafkaa
