/- The walk of CrcTriples. -/
import Derived.Test.YtojgdejofpafkaaCrc7
import Derived.Test.YtojgdejofpafkaaSepZero
import Derived.Laws.MakeOwn
import Derived.WalkLawsBesides
namespace Go.Proofs.Ytojgdejofpafkaa
open Go.RowKit
set_option linter.unusedVariables false

def xor3 (a b c : List UInt8) (n : Nat) : List UInt8 := List.zipWith (· ^^^ ·) (List.zipWith (· ^^^ ·) (a.take n) (b.take n)) (c.take n)

theorem xor3_length (a b c : List UInt8) (n : Nat) (ha : n ≤ a.length) (hb : n ≤ b.length) (hc : n ≤ c.length) : (xor3 a b c n).length = n := by
  unfold xor3
  simp
  omega

theorem sum_xor3 (a b c : List UInt8) (n : Nat) (ha : n ≤ a.length) (hb : n ≤ b.length) (hc : n ≤ c.length) : sumB (a.take n) ^^^ sumB (b.take n) ^^^ sumB (c.take n) = sumB (xor3 a b c n) := by
  have h1 := behind_xor (a.take n) (b.take n) (~~~ 0#32) (~~~ 0#32) (by simp; omega)
  have h2 := behind_xor (List.zipWith (· ^^^ ·) (a.take n) (b.take n)) (c.take n) 0#32 (~~~ 0#32) (by simp; omega)
  rw [BitVec.xor_self] at h1
  rw [BitVec.zero_xor] at h2
  unfold sumB xor3
  rw [h2, h1]
  have e : ∀ z : BitVec 32, ~~~ z = BitVec.allOnes 32 ^^^ z := fun _ => BitVec.allOnes_xor.symm
  generalize behindB (~~~ 0#32) (a.take n) = x
  generalize behindB (~~~ 0#32) (b.take n) = y
  generalize behindB (~~~ 0#32) (c.take n) = z
  rw [e, e, e, e]
  generalize BitVec.allOnes 32 = o
  have e2 : o ^^^ x ^^^ (o ^^^ y) ^^^ (o ^^^ z) = (o ^^^ o) ^^^ (o ^^^ (x ^^^ y ^^^ z)) := by ac_rfl
  rw [e2, BitVec.xor_self, BitVec.zero_xor]

theorem xor3_get (a b c : List UInt8) (n j : Nat) (hj : j < n) (x y z : UInt8) (ha : a[j]? = some x) (hb : b[j]? = some y) (hc : c[j]? = some z) : (xor3 a b c n)[j]? = some (x ^^^ y ^^^ z) := by
  unfold xor3
  rw [List.getElem?_zipWith, List.getElem?_zipWith, List.getElem?_take, List.getElem?_take, List.getElem?_take, if_pos hj, if_pos hj, if_pos hj, ha, hb, hc]

/-- The row so far. -/
def rowTo (d : List UInt8) (i : Nat) : Array Value := ((d.take i).map B ++ List.replicate (d.length - i) (Value.int .u8 0)).toArray

theorem rowTo_snoc (d : List UInt8) (i : Nat) (y : UInt8) (h : d[i]? = some y) : (rowTo d i).setIfInBounds i (B y) = rowTo d (i + 1) := by
  obtain ⟨hi, rfl⟩ := List.getElem?_eq_some_iff.1 h
  unfold rowTo
  rw [List.take_succ_eq_append_getElem hi, List.setIfInBounds_toArray]
  have e : d.length - i = (d.length - (i + 1)) + 1 := by omega
  rw [e, List.replicate_succ, List.set_append_right _ _ (by simp; omega)]
  have e2 : i - ((d.take i).map B).length = 0 := by simp; omega
  rw [e2, List.set_cons_zero, List.map_append, List.append_assoc]
  rfl

theorem rowTo_end (d : List UInt8) : rowTo d d.length = (d.map B).toArray := by simp [rowTo]
theorem rowTo_begin (d : List UInt8) : rowTo d 0 = (List.replicate d.length (Value.int .u8 0)).toArray := by simp [rowTo]
theorem rowTo_size (d : List UInt8) (i : Nat) (h : i ≤ d.length) : (rowTo d i).size = d.length := by unfold rowTo; simp; omega

theorem made_eq {z : Value} (hz : z.cells = #[z]) (k : Nat) : madeCells z.cells k = (List.replicate k z).toArray := by
  apply Array.ext'
  refine List.eq_replicate_iff.2 ⟨by simp [madeCells], fun y hy => ?_⟩
  unfold madeCells at hy
  rw [hz] at hy
  simp only [Array.toList_map, List.mem_map] at hy
  obtain ⟨i, _, rfl⟩ := hy
  have : i % (#[z] : Array Value).size = 0 := by simp [Nat.mod_one]
  rw [this]
  rfl

theorem run_min4 {P : Program} (w : World) (ts : Array TypeId) (t : TypeId) (x y z v : Nat) :
    (Builtin.min_ ts t #[.int .i64 x, .int .i64 y, .int .i64 z, .int .i64 v]).run P w = .ok (.int .i64 ((min (min (min x y) z) v : Nat) : Int)) w := by
  have e : ∀ x y z v : Int, (Builtin.min_ ts t #[.int .i64 x, .int .i64 y, .int .i64 z, .int .i64 v]).run P w = .ok (.int .i64 (if v < (if z < (if y < x then y else x) then z else (if y < x then y else x)) then v else (if z < (if y < x then y else x) then z else (if y < x then y else x)))) w := by
    intro x y z v
    simp [Builtin.min_, Builtin.min2]
  rw [e]
  congr 2
  repeat' split
  all_goals omega

set_option maxHeartbeats 2000000 in
theorem triples_walk (w : World) (va : Value) (a : List UInt8) (ha : BytesAt w va a) (vb : Value) (b : List UInt8) (hb : BytesAt w vb b) (vc : Value) (c : List UInt8) (hc : BytesAt w vc c) :
    Calls Try.prog 6 #[va, vb, vc] w fun e w' => e = .returned (.bool true) ∧ Sat w w' (allro w) := by
  obtain ⟨aa, ca, rfl, la1, la2⟩ := RowAt.len ha
  obtain ⟨ab, cb, rfl, lb1, lb2⟩ := RowAt.len hb
  obtain ⟨ac, cc, rfl, lc1, lc2⟩ := RowAt.len hc
  have hs := sat_allro w
  obtain ⟨n, hn, hna, hnb, hnc, hn2⟩ : ∃ n : Nat, min (min (min a.length b.length) c.length) 2000 = n ∧ n ≤ a.length ∧ n ≤ b.length ∧ n ≤ c.length ∧ n ≤ 2000 := ⟨_, rfl, by omega, by omega, by omega, by omega⟩
  have hmin : ∀ (x : World) (ts : Array TypeId) (t : TypeId), (Builtin.min_ ts t #[.int .i64 a.length, .int .i64 b.length, .int .i64 c.length, .int .i64 2000]).run Try.prog x = .ok (.int .i64 n) x := by
    intro x ts t
    have := run_min4 (P := Try.prog) x ts t a.length b.length c.length 2000
    rw [hn] at this
    exact this
  clear hn
  obtain ⟨i0, hi, hz0, hz1, hz2⟩ := info_parts info_u8
  have hmk := run_make (P := Try.prog) w 22 5 i0 (.int .u8 0) Try.underlying22 hi hz0 .i64 .i64 n n (by omega) (by omega) (by rw [hz2]; omega) (by omega)
  rw [hz1, Nat.mul_one, made_eq rfl, Int.toNat_natCast] at hmk
  go_enter Try.func6, Try.ntmps6
  go_wp2_with fail
  clear hmin hmk
  have h1 := hs.alloc (.cells (Array.replicate n (Value.int .u8 0)) 5)
  have hl3 := xor3_length a b c n hna hnb hnc
  have h2 : Sat w (w.alloc (.cells (Array.replicate n (Value.int .u8 0)) 5)) (own w.heap.size (.cells (rowTo (xor3 a b c n) 0) 5 (0, 0)) * allro w) := by
    rw [rowTo_begin, hl3, List.toArray_replicate]
    exact h1
  clear h1
  generalize w.heap.size = g at h2 ⊢
  generalize w.alloc _ = w1 at h2 ⊢
  have hka : ∀ w', Sat w w' (allro w) → BytesAt w' (.slice aa a.length ca) a := fun w' h' => ha.below h'.below
  have hkb : ∀ w', Sat w w' (allro w) → BytesAt w' (.slice ab b.length cb) b := fun w' h' => hb.below h'.below
  have hkc : ∀ w', Sat w w' (allro w) → BytesAt w' (.slice ac c.length cc) c := fun w' h' => hc.below h'.below
  have HA := Lib.hid hka
  have HB := Lib.hid hkb
  have HC := Lib.hid hkc
  have HL3 := Lib.hid hl3
  clear hka hkb hkc hl3
  go_loopw [9] (fun i wr => ∃ k : Nat, k ≤ n ∧ i = .int .i64 k ∧ Sat w wr (own g (.cells (rowTo (xor3 a b c n) k) 5 (0, 0)) * allro w)) (fun i _ => n - (intOf i).toNat)
  case atStart => exact ⟨0, Nat.zero_le _, rfl, h2⟩
  case round =>
    obtain ⟨k, hk, rfl, h3⟩ := hrel
    clear h2
    by_cases hlt : k < n
    · obtain ⟨b1, o1, c1, hv1, _, _, q1⟩ := (HA.out wr h3.right).open (by omega)
      obtain ⟨b2, o2, c2, hv2, _, _, q2⟩ := (HB.out wr h3.right).open (by omega)
      obtain ⟨b3, o3, c3, hv3, _, _, q3⟩ := (HC.out wr h3.right).open (by omega)
      cases hv1
      cases hv2
      cases hv3
      clear q1 q2 q3
      have key : ∀ (l : List UInt8) (x : World) (b o c : Nat), BytesAt x (.slice (some ⟨b, o, none⟩) l.length c) l → (h : k < l.length) → x.cell? ⟨b, o + k, none⟩ = some (.int .u8 (l[k].toNat : Int)) := by
        intro l x b o c hb h
        obtain ⟨b', o', c', hv, _, _, q⟩ := hb.open (by omega)
        cases hv
        exact q k l[k] (by simp [h])
      have hx := xor3_get a b c n k hlt _ _ _ (List.getElem?_eq_getElem (by omega)) (List.getElem?_eq_getElem (by omega)) (List.getElem?_eq_getElem (by omega))
      have K1 := Lib.hid (fun x (h : Sat w x (allro w)) => key a x b1 o1 ca (HA.out x h) (by omega))
      have K2 := Lib.hid (fun x (h : Sat w x (allro w)) => key b x b2 o2 cb (HB.out x h) (by omega))
      have K3 := Lib.hid (fun x (h : Sat w x (allro w)) => key c x b3 o3 cc (HC.out x h) (by omega))
      have hsn := rowTo_snoc _ _ _ hx
      have HX := Lib.hid hsn
      clear key hx hsn
      have hak : k < a.length := by omega
      have hbk : k < b.length := by omega
      have hck : k < c.length := by omega
      generalize a[k] = xa at K1 HX
      generalize b[k] = xb at K2 HX
      generalize c[k] = xc at K3 HX
      have hxx : bits .xor .u8 (bits .xor .u8 (xa.toNat : Int) (xb.toNat : Int)) (xc.toNat : Int) = ((xa ^^^ xb ^^^ xc).toNat : Int) := by
        rw [u8_xor_nat _ _ xa.toNat_lt xb.toNat_lt, ← UInt8.toNat_xor, u8_xor_nat _ _ (UInt8.toNat_lt _) xc.toNat_lt, ← UInt8.toNat_xor]
      generalize xa ^^^ xb ^^^ xc = xd at HX hxx
      have y1 : (k : Int) < a.length := by omega
      have y2 : (k : Int) < b.length := by omega
      have y3 : (k : Int) < c.length := by omega
      have y4 : (k : Int) < n := by omega
      go_wp2_with fail
      refine wp_region_seq [(0, true), (1, true), (2, true), (3, true), (4, true), (5, true), (6, true), (7, true), (8, true), (9, true), (10, true), (11, true), (12, true), (13, true), (14, true), (15, true), (16, true), (17, false)] (fun x => Sat w x (allro w)) (by kernel_rfl) (by kernel_rfl) (fun _ _ _ _ _ h => h) ?_
      simp only [pickOps, Array.getD_eq_getD_getElem?, List.getElem?_toArray, List.getElem?_cons_succ, List.getElem?_cons_zero, Option.getD_some]
      have h4 := h3.drew
      have h5 := h4.right
      repeat (first
        | (refine wpSeq_run (by rfl) h5 (fun K hK => ⟨?_, ?_, ?_⟩); rotate_left; (· (intro wS hSw; have d1 := K1.out _ hSw; have d2 := K2.out _ hSw; have d3 := K3.out _ hSw; go_simp <;> with_reducible rfl)); simp only [Act.put, List.setIfInBounds_toArray, List.set_cons_zero, List.set_cons_succ]; refine hK _ ?_; clear hK K)
        | (refine wpSeq_skip (by rfl) h5 (fun K hK => ?_); simp only [Act.put, List.setIfInBounds_toArray, List.set_cons_zero, List.set_cons_succ]; refine hK _ ?_; clear hK K))
      have hsz : k < (rowTo (xor3 a b c n) k).size := by rw [rowTo_size _ _ (by rw [HL3.out]; omega), HL3.out]; exact hlt
      obtain ⟨v0, c0⟩ : ∃ v0, wr.drew.cell? ⟨g, k, none⟩ = some v0 := ⟨_, by rw [h4.cell, Array.getElem?_eq_getElem hsz]⟩
      have f0 := h4.free k
      have h6 : Sat w (wr.drew.setCell ⟨g, k, none⟩ (.int .u8 xd.toNat)) (own g (.cells (rowTo (xor3 a b c n) (k + 1)) 5 (0, 0)) * allro w) := by
        rw [← HX.out]
        exact h4.setCell k _
      clear hsz
      refine wpSeq_act (by rfl) (fun K hK => ?_)
      go_simp
      try dsimp only
      try simp only [Act.put, List.setIfInBounds_toArray, List.set_cons_zero, List.set_cons_succ]
      refine hK _ _ (fun x => Sat w x (allro w)) ((fun _ h => h)) h6.right ?_
      clear hK K
      refine wpSeq_end ?_
      go_wp2_with fail
      go_roundw
      case rel => exact ⟨k + 1, by omega, by go_num, h6⟩
      case measure => simp [intOf]; omega
    · have e : k = n := by omega
      subst e
      have hsum := sum_xor3 a b c k hna hnb hnc
      have hxx : bits .xor .u32 (bits .xor .u32 ((sumB (a.take k)).toNat : Int) ((sumB (b.take k)).toNat : Int)) ((sumB (c.take k)).toNat : Int) = ((sumB (xor3 a b c k)).toNat : Int) := by
        rw [xor32, xor32, hsum]
      clear hsum
      have hD : Sat w wr.drew (litB g (xor3 a b c k) * allro w) := by
        have := h3.drew
        have e : rowTo (xor3 a b c k) k = ((xor3 a b c k).map B).toArray := by
          conv => lhs; rw [← HL3.out]
          rw [HL3.out]
          have := rowTo_end (xor3 a b c k)
          rwa [HL3.out] at this
        rw [e] at this
        exact this
      have hD2 : BytesAt wr.drew (.slice (some ⟨g, 0, none⟩) k k) (xor3 a b c k) := by
        have := litB_at hD (by rw [HL3.out]; omega)
        rwa [HL3.out] at this
      have hA := BytesAt.take (HA.out _ hD.right) k hna
      have hB := BytesAt.take (HB.out _ hD.right) k hnb
      have hC := BytesAt.take (HC.out _ hD.right) k hnc
      have y1 : (k : Int) ≤ ca := by omega
      have y2 : (k : Int) ≤ cb := by omega
      have y3 : (k : Int) ≤ cc := by omega
      go_wp2_with fail
      refine wp_region_seq [(0, true), (1, true), (2, true), (4, true), (5, true), (6, true), (9, true), (10, true), (11, true), (14, true), (3, false), (7, false), (8, true), (12, false), (13, true), (15, false), (16, true), (17, true), (18, false), (19, true), (20, true)] (fun x => Sat w x (litB g (xor3 a b c k) * allro w)) (by kernel_rfl) (by kernel_rfl) (fun _ _ _ _ _ h => h) ?_
      simp only [pickOps, Array.getD_eq_getD_getElem?, List.getElem?_toArray, List.getElem?_cons_succ, List.getElem?_cons_zero, Option.getD_some]
      repeat (first
        | (refine wpSeq_run (by rfl) hD (fun K hK => ⟨?_, ?_, ?_⟩); rotate_left; (· (intro wS hSw; go_simp <;> with_reducible rfl)); simp only [Act.put, List.setIfInBounds_toArray, List.set_cons_zero, List.set_cons_succ]; refine hK _ ?_; clear hK K)
        | (refine wpSeq_skip (by rfl) hD (fun K hK => ?_); simp only [Act.put, List.setIfInBounds_toArray, List.set_cons_zero, List.set_cons_succ]; refine hK _ ?_; clear hK K))
      refine wpSeq_act (by rfl) (fun K hK => ?_)
      go_simp
      refine (sum_any _ _ _ hA).mono ?_
      rintro e w2 ⟨rfl, rfl⟩
      try dsimp only
      try simp only [Act.put, List.setIfInBounds_toArray, List.set_cons_zero, List.set_cons_succ]
      refine hK _ _ (_) ((fun _ h => h)) hD ?_
      clear hK K
      repeat (first
        | (refine wpSeq_run (by rfl) hD (fun K hK => ⟨?_, ?_, ?_⟩); rotate_left; (· (intro wS hSw; go_simp <;> with_reducible rfl)); simp only [Act.put, List.setIfInBounds_toArray, List.set_cons_zero, List.set_cons_succ]; refine hK _ ?_; clear hK K)
        | (refine wpSeq_skip (by rfl) hD (fun K hK => ?_); simp only [Act.put, List.setIfInBounds_toArray, List.set_cons_zero, List.set_cons_succ]; refine hK _ ?_; clear hK K))
      refine wpSeq_act (by rfl) (fun K hK => ?_)
      go_simp
      refine (sum_any _ _ _ hB).mono ?_
      rintro e w2 ⟨rfl, rfl⟩
      try dsimp only
      try simp only [Act.put, List.setIfInBounds_toArray, List.set_cons_zero, List.set_cons_succ]
      refine hK _ _ (_) ((fun _ h => h)) hD ?_
      clear hK K
      repeat (first
        | (refine wpSeq_run (by rfl) hD (fun K hK => ⟨?_, ?_, ?_⟩); rotate_left; (· (intro wS hSw; go_simp <;> with_reducible rfl)); simp only [Act.put, List.setIfInBounds_toArray, List.set_cons_zero, List.set_cons_succ]; refine hK _ ?_; clear hK K)
        | (refine wpSeq_skip (by rfl) hD (fun K hK => ?_); simp only [Act.put, List.setIfInBounds_toArray, List.set_cons_zero, List.set_cons_succ]; refine hK _ ?_; clear hK K))
      refine wpSeq_act (by rfl) (fun K hK => ?_)
      go_simp
      refine (sum_any _ _ _ hC).mono ?_
      rintro e w2 ⟨rfl, rfl⟩
      try dsimp only
      try simp only [Act.put, List.setIfInBounds_toArray, List.set_cons_zero, List.set_cons_succ]
      refine hK _ _ (_) ((fun _ h => h)) hD ?_
      clear hK K
      repeat (first
        | (refine wpSeq_run (by rfl) hD (fun K hK => ⟨?_, ?_, ?_⟩); rotate_left; (· (intro wS hSw; go_simp <;> with_reducible rfl)); simp only [Act.put, List.setIfInBounds_toArray, List.set_cons_zero, List.set_cons_succ]; refine hK _ ?_; clear hK K)
        | (refine wpSeq_skip (by rfl) hD (fun K hK => ?_); simp only [Act.put, List.setIfInBounds_toArray, List.set_cons_zero, List.set_cons_succ]; refine hK _ ?_; clear hK K))
      refine wpSeq_act (by rfl) (fun K hK => ?_)
      go_simp
      refine (sum_any _ _ _ hD2).mono ?_
      rintro e w2 ⟨rfl, rfl⟩
      try dsimp only
      try simp only [Act.put, List.setIfInBounds_toArray, List.set_cons_zero, List.set_cons_succ]
      refine hK _ _ (_) ((fun _ h => h)) hD ?_
      clear hK K
      repeat (first
        | (refine wpSeq_run (by rfl) hD (fun K hK => ⟨?_, ?_, ?_⟩); rotate_left; (· (intro wS hSw; go_simp <;> with_reducible rfl)); simp only [Act.put, List.setIfInBounds_toArray, List.set_cons_zero, List.set_cons_succ]; refine hK _ ?_; clear hK K)
        | (refine wpSeq_skip (by rfl) hD (fun K hK => ?_); simp only [Act.put, List.setIfInBounds_toArray, List.set_cons_zero, List.set_cons_succ]; refine hK _ ?_; clear hK K))
      refine wpSeq_act (by rfl) (fun K hK => ?_)
      go_simp
      refine (works_any w _ _ hD).mono ?_
      rintro e w2 ⟨rfl, h9⟩
      try dsimp only
      try simp only [Act.put, List.setIfInBounds_toArray, List.set_cons_zero, List.set_cons_succ]
      refine hK _ _ (_) ((fun _ h => h)) h9 ?_
      clear hK K
      repeat (first
        | (refine wpSeq_run (by rfl) h9 (fun K hK => ⟨?_, ?_, ?_⟩); rotate_left; (· (intro wS hSw; go_simp <;> with_reducible rfl)); simp only [Act.put, List.setIfInBounds_toArray, List.set_cons_zero, List.set_cons_succ]; refine hK _ ?_; clear hK K)
        | (refine wpSeq_skip (by rfl) h9 (fun K hK => ?_); simp only [Act.put, List.setIfInBounds_toArray, List.set_cons_zero, List.set_cons_succ]; refine hK _ ?_; clear hK K))
      refine wpSeq_end ?_
      go_wp2
      go_ret
      exact ⟨rfl, h9.right⟩
end Go.Proofs.Ytojgdejofpafkaa
