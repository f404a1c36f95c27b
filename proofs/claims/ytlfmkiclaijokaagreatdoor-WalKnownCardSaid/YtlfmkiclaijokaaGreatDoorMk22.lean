/- A log over a disk, opened: what holds of both, and what an opening keeps: plain laws. No program in sight. A Checkpoint, and an opening: plain laws. No program in sight. An opening: plain laws. No program in sight. -/
import Derived.Test.YtlfmkiclaijokaaGreatDoorMk17
import Derived.Test.YtlfmkiclaijokaaGreatDoorMk9
namespace Go.Proofs.YtlfmkiclaijokaaGreatDoor

/-- What holds of a disk and of the log that is open on it. -/
structure InvO (d : DiskP) (W : WalP) : Prop where
  sorted : SortedF d.files
  set : -1 ≤ d.set
  quota : d.quota = 1048576
  off : d.off = false
  ck : getF d.files ckN = if W.gen = 0 then none else some ⟨ckN, frameB 75 W.gen W.state, [], true⟩
  zero : W.gen = 0 → W.state = []
  all : (fileOf d (nameW W.gen)).all = recsB 1 W.recs
  dry : (recsB 1 (W.recs.take W.sure)).length ≤ (fileOf d (nameW W.gen)).dry.length
  sur : W.sure ≤ W.recs.length
  names : ∀ f ∈ d.files, f.name = ckN ∨ f.name = nameW W.gen
  size : W.size = (recsB 1 W.recs).length
  broken : W.broken = 0
  gs : W.gen < 100
  ss : W.state.length ≤ 6000
  rs : (recsB 1 W.recs).length ≤ 10000

theorem InvO.toD {d : DiskP} {W : WalP} (h : InvO d W) : InvD d W.gen W.state W.recs W.sure :=
  ⟨h.sorted, h.set, h.quota, h.ck, h.zero, by rw [h.all]; exact List.prefix_refl _, h.dry, h.sur, fun f hf => (h.names f hf).imp id fun e => .inr ⟨W.gen, by have := h.gs; omega, e⟩, h.gs, h.ss, h.rs⟩

theorem used_get (fs : List FileP) (hs : SortedF fs) (n : Bs) : usedF fs = sizeO (getF fs n) + usedF (delF n fs) := by
  rcases h : getF fs n with _ | f
  · have : delF n fs = fs := by
      unfold delF
      rw [List.filter_eq_self]
      intro f hf
      unfold getF at h
      have := List.find?_eq_none.1 h f hf
      simpa using this
    rw [this]
    show usedF fs = 0 + usedF fs
    omega
  · have := (used_del fs hs n f h).1
    show _ = f.size + _
    omega

theorem used_two (fs : List FileP) (hs : SortedF fs) (a b : Bs) (hab : a ≠ b) (hn : ∀ f ∈ fs, f.name = a ∨ f.name = b) : usedF fs = sizeO (getF fs a) + sizeO (getF fs b) := by
  rw [used_get fs hs a, used_get (delF a fs) (sorted_del a fs hs) b, get_del, if_neg (Ne.symm hab)]
  have : delF b (delF a fs) = [] := by
    unfold delF
    rw [List.filter_filter, List.filter_eq_nil_iff]
    intro f hf
    rcases hn f hf with e | e <;> simp [e]
  rw [this, show usedF ([] : List FileP) = 0 from rfl]
  omega

theorem sizeO_file (d : DiskP) (n : Bs) : sizeO (getF d.files n) = (fileOf d n).size := by
  unfold fileOf
  rcases getF d.files n with _ | f
  · rfl
  · rfl

theorem file_size_all (f : FileP) : f.size = f.all.length := by unfold FileP.size FileP.all; rw [List.length_append]

section
variable {d : DiskP} {W : WalP}

theorem InvO.used (h : InvO d W) : usedF d.files ≤ 16017 := by
  have hg : W.gen < 128 := by have := h.gs; omega
  rw [used_two d.files h.sorted ckN (nameW W.gen) (Ne.symm (nameW_ck hg)) h.names, sizeO_file d (nameW W.gen), file_size_all, h.all, h.ck]
  have := h.rs
  have := h.ss
  split
  · show 0 + _ ≤ _; omega
  · show (frameB 75 W.gen W.state).length + 0 + _ ≤ _
    rw [frameB_length]
    omega

theorem InvO.bars (h : InvO d W) (n : Bs) (hb : badName n = false) : barsD d [n] = 0 := by
  unfold barsD
  rw [h.off]
  simp [hb]

theorem InvO.fail (h : InvO d W) (n : Int) : InvO (failD d n) W :=
  ⟨h.sorted, by show -1 ≤ max (-1) n; omega, h.quota, h.off, h.ck, h.zero, h.all, h.dry, h.sur, h.names, h.size, h.broken, h.gs, h.ss, h.rs⟩

theorem recsB_snoc (l : List Bs) (b : Bs) : recsB 1 (l ++ [b]) = recsB 1 l ++ frameB 82 (l.length + 1) b := by
  rw [recsB_append]
  show _ ++ (frameB 82 (1 + l.length) b ++ []) = _
  rw [List.append_nil, Nat.add_comm]

theorem fileOf_put (d : DiskP) (f : FileP) (n : Bs) : fileOf { d with files := putF f d.files } n = if f.name = n then f else fileOf d n := by
  unfold fileOf
  show (getF (putF f d.files) n).getD _ = _
  rw [get_put]
  split <;> rfl

theorem fileOf_name (d : DiskP) (n : Bs) : (fileOf d n).name = n := by
  unfold fileOf
  rcases h : getF d.files n with _ | f
  · rfl
  · exact (getF_name h).1

theorem InvO.stp (h : InvO d W) (hst : stepOk d = true) : InvO (stepD d) W := by
  have hs := stepD_off d
  refine ⟨by rw [stepD_files]; exact h.sorted, stepD_set _, by rw [stepD_quota]; exact h.quota, by rw [hs, hst, h.off]; rfl, by rw [stepD_files]; exact h.ck, h.zero, ?_, ?_, h.sur, by rw [stepD_files]; exact h.names, h.size, h.broken, h.gs, h.ss, h.rs⟩
  · rw [fileOf_congr (stepD_files _)]; exact h.all
  · rw [fileOf_congr (stepD_files _)]; exact h.dry

theorem stepD_put (d : DiskP) (fs : List FileP) : { stepD d with files := fs } = stepD { d with files := fs } := by
  unfold stepD crashD
  dsimp only
  split <;> rfl

/-- A file that is dried: what it is then. -/
theorem dries_ok {n m : Bs} {f : FileP} {left : Bs → Bs × Int} (h : d.off = false) (h1 : badName n = false) (h2 : badName m = false) (hf : getF d.files n = some f) (hl : (left f.all).2 = 0) :
    driesD d n m left = if stepOk d then (0, { stepD d with files := putF ⟨m, (left f.all).1, [], true⟩ (delF n d.files) }) else (40, stepD d) := by
  have hb : barsD d [n, m] = 0 := by unfold barsD; rw [h]; simp [h1, h2]
  unfold driesD
  rw [hb, if_neg (by decide), hf]
  dsimp only
  rw [hl, if_neg (by decide)]

theorem put_del_same (f : FileP) (n : Bs) (fs : List FileP) (hn : f.name = n) (k : Bs) : getF (putF f (delF n fs)) k = if n = k then some f else getF fs k := by
  rw [get_put, hn]
  by_cases e : n = k
  · rw [if_pos e, if_pos e]
  · rw [if_neg e, if_neg e, get_del, if_neg (Ne.symm e)]

/-- A Commit: it goes well, or the power goes at it. -/
theorem InvO.commit (h : InvO d W) :
    ((commitW d W).1 = 0 ∧ InvO (commitW d W).2.2 (commitW d W).2.1 ∧ (commitW d W).2.1 = { W with sure := W.recs.length }) ∨
    ((commitW d W).1 = 40 ∧ (commitW d W).2.2.off = true ∧ InvD (commitW d W).2.2 W.gen W.state W.recs W.sure) := by
  by_cases hs : W.sure = W.recs.length
  · have e : commitW d W = (0, W, d) := by unfold commitW; rw [if_neg (by simp [h.broken]), if_pos hs]
    rw [e]
    refine .inl ⟨rfl, h, ?_⟩
    show W = { W with sure := W.recs.length }
    rw [← hs]
  · have hg : W.gen < 128 := by have := h.gs; omega
    have hne : (recsB 1 W.recs).length ≠ 0 := by
      have := recsB_many W.recs 1
      have := h.sur
      omega
    obtain ⟨f, hf⟩ : ∃ f, getF d.files (nameW W.gen) = some f := by
      rcases hx : getF d.files (nameW W.gen) with _ | f
      · exfalso
        have : (fileOf d (nameW W.gen)).all = [] := by unfold fileOf; rw [hx]; rfl
        rw [h.all] at this
        rw [this] at hne
        exact hne rfl
      · exact ⟨f, rfl⟩
    have hfo : fileOf d (nameW W.gen) = f := by unfold fileOf; rw [hf]; rfl
    have hfa : f.all = recsB 1 W.recs := by rw [← hfo]; exact h.all
    have hd := dries_ok (d := d) (n := nameW W.gen) (m := nameW W.gen) (left := wholeL) h.off (nameW_bad hg) (nameW_bad hg) hf rfl
    have e : commitW d W = if (driesD d (nameW W.gen) (nameW W.gen) wholeL).1 = 0 then (0, { W with sure := W.recs.length }, (driesD d (nameW W.gen) (nameW W.gen) wholeL).2) else ((driesD d (nameW W.gen) (nameW W.gen) wholeL).1, metW (driesD d (nameW W.gen) (nameW W.gen) wholeL).1 W, (driesD d (nameW W.gen) (nameW W.gen) wholeL).2) := by
      unfold commitW; rw [if_neg (by simp [h.broken]), if_neg hs]
    rw [e, hd]
    by_cases hst : stepOk d = true
    · rw [if_pos hst]
      dsimp only
      rw [if_pos rfl]
      refine .inl ⟨rfl, ?_, rfl⟩
      dsimp only [wholeL]
      have hk : ∀ k, getF (putF ⟨nameW W.gen, f.all, [], true⟩ (delF (nameW W.gen) d.files)) k = if nameW W.gen = k then some ⟨nameW W.gen, f.all, [], true⟩ else getF d.files k := put_del_same _ _ _ rfl
      have hfo2 : fileOf { stepD d with files := putF ⟨nameW W.gen, f.all, [], true⟩ (delF (nameW W.gen) d.files) } (nameW W.gen) = ⟨nameW W.gen, f.all, [], true⟩ := by
        unfold fileOf
        show (getF (putF ⟨nameW W.gen, f.all, [], true⟩ (delF (nameW W.gen) d.files)) (nameW W.gen)).getD _ = _
        rw [hk, if_pos rfl]
        rfl
      refine ⟨sorted_put _ _ (sorted_del _ _ h.sorted), stepD_set d, by show (stepD d).quota = _; rw [stepD_quota]; exact h.quota, by show (stepD d).off = false; rw [stepD_off, hst, h.off]; rfl, ?_, h.zero, ?_, ?_, Nat.le_refl _, ?_, h.size, h.broken, h.gs, h.ss, h.rs⟩
      · show getF (putF ⟨nameW W.gen, f.all, [], true⟩ (delF (nameW W.gen) d.files)) ckN = _
        rw [hk, if_neg (nameW_ck hg)]
        exact h.ck
      · show (fileOf { stepD d with files := putF ⟨nameW W.gen, f.all, [], true⟩ (delF (nameW W.gen) d.files) } (nameW W.gen)).all = _
        rw [hfo2]
        show f.all ++ [] = _
        rw [List.append_nil, hfa]
      · show (recsB 1 (W.recs.take W.recs.length)).length ≤ (fileOf { stepD d with files := putF ⟨nameW W.gen, f.all, [], true⟩ (delF (nameW W.gen) d.files) } (nameW W.gen)).dry.length
        rw [hfo2, List.take_length]
        show _ ≤ f.all.length
        rw [hfa]
        exact Nat.le_refl _
      · intro k hk2
        rcases mem_putF hk2 with rfl | hk2
        · exact .inr rfl
        · exact h.names k (mem_del hk2)
    · rw [if_neg hst]
      have hst2 : stepOk d = false := by simpa using hst
      dsimp only
      rw [if_neg (by decide)]
      exact .inr ⟨rfl, by show (stepD d).off = true; rw [stepD_off, hst2]; rfl, h.toD.step⟩

/-- An Append, of a record that fits: it goes well, or the power goes at it. -/
theorem InvO.append (h : InvO d W) (b : Bs) (hb : b.length ≤ 6000) (hr : (recsB 1 W.recs).length + 17 + b.length ≤ 10000) :
    ((appendW d W b).1 = 0 ∧ InvO (appendW d W b).2.2 (appendW d W b).2.1 ∧ (appendW d W b).2.1 = { W with recs := W.recs ++ [b], size := W.size + (17 + b.length) }) ∨
    ((appendW d W b).1 = 40 ∧ (appendW d W b).2.2.off = true ∧ InvD (appendW d W b).2.2 W.gen W.state (W.recs ++ [b]) W.sure) := by
  have hg : W.gen < 128 := by have := h.gs; omega
  have hfl := frameB_length 82 (W.recs.length + 1) b
  have hu := h.used
  have hfo := fileOf_name d (nameW W.gen)
  have hall := h.all
  have hsz : (fileOf d (nameW W.gen)).size = (recsB 1 W.recs).length := by rw [file_size_all, hall]
  have hE : appE d (nameW W.gen) (frameB 82 (W.recs.length + 1) b) = 0 := by
    unfold appE
    rw [h.bars _ (nameW_bad hg), if_neg (by decide), if_neg (by rw [hfl, hsz]; unfold maxDisk; omega), if_neg (by rw [hfl, h.quota]; omega)]
  have hD : appendD d (nameW W.gen) (frameB 82 (W.recs.length + 1) b) = (if stepOk (appPut d (nameW W.gen) (frameB 82 (W.recs.length + 1) b)) then 0 else 40, stepD (appPut d (nameW W.gen) (frameB 82 (W.recs.length + 1) b))) := by
    unfold appendD
    rw [hE, if_neg (by decide)]
  -- the disk behind it
  obtain ⟨f, hf⟩ : ∃ f, ({ fileOf d (nameW W.gen) with wet := (fileOf d (nameW W.gen)).wet ++ frameB 82 (W.recs.length + 1) b } : FileP) = f := ⟨_, rfl⟩
  have hput : appPut d (nameW W.gen) (frameB 82 (W.recs.length + 1) b) = { d with files := putF f d.files } := by rw [← hf]; rfl
  have hfn : f.name = nameW W.gen := by rw [← hf]; exact hfo
  have hfa : f.all = recsB 1 (W.recs ++ [b]) := by
    rw [← hf, recsB_snoc, ← hall]
    show _ ++ (_ ++ _) = _ ++ _ ++ _
    rw [List.append_assoc]
  have hfd : f.dry = (fileOf d (nameW W.gen)).dry := by rw [← hf]
  have hck : getF (putF f d.files) ckN = getF d.files ckN := by rw [get_put, if_neg (by rw [hfn]; exact nameW_ck hg)]
  have hfl2 : fileOf { d with files := putF f d.files } (nameW W.gen) = f := by rw [fileOf_put, if_pos hfn]
  have htk : (W.recs ++ [b]).take W.sure = W.recs.take W.sure := by rw [List.take_append_of_le_length h.sur]
  have hO : InvO { d with files := putF f d.files } { W with recs := W.recs ++ [b], size := W.size + (17 + b.length) } := by
    refine ⟨sorted_put f _ h.sorted, h.set, h.quota, h.off, ?_, h.zero, ?_, ?_, ?_, ?_, ?_, h.broken, h.gs, h.ss, ?_⟩
    · show getF (putF f d.files) ckN = _; rw [hck]; exact h.ck
    · show (fileOf { d with files := putF f d.files } (nameW W.gen)).all = _; rw [hfl2]; exact hfa
    · show (recsB 1 ((W.recs ++ [b]).take W.sure)).length ≤ (fileOf { d with files := putF f d.files } (nameW W.gen)).dry.length; rw [hfl2, htk, hfd]; exact h.dry
    · show W.sure ≤ (W.recs ++ [b]).length; rw [List.length_append]; have := h.sur; omega
    · intro k hk
      rcases mem_putF hk with rfl | hk
      · exact .inr hfn
      · exact h.names k hk
    · show W.size + (17 + b.length) = _; rw [recsB_snoc, List.length_append, hfl, h.size]
    · show (recsB 1 (W.recs ++ [b])).length ≤ _; rw [recsB_snoc, List.length_append, hfl]; omega
  have hW : appendW d W b = if stepOk { d with files := putF f d.files } then (0, { W with recs := W.recs ++ [b], size := W.size + (17 + b.length) }, stepD { d with files := putF f d.files }) else (40, metW 40 W, stepD { d with files := putF f d.files }) := by
    unfold appendW
    rw [if_neg (by simp [h.broken]), if_neg (by omega)]
    dsimp only
    rw [hD, hput, hfl]
    by_cases hst : stepOk { d with files := putF f d.files } = true
    · rw [if_pos hst, if_pos hst]; rfl
    · rw [if_neg hst, if_neg hst]; rfl
  rw [hW]
  by_cases hst : stepOk { d with files := putF f d.files } = true
  · rw [if_pos hst]
    exact .inl ⟨rfl, hO.stp hst, rfl⟩
  · rw [if_neg hst]
    have hst2 : stepOk { d with files := putF f d.files } = false := by simpa using hst
    exact .inr ⟨rfl, by show (stepD _).off = true; rw [stepD_off, hst2]; rfl, hO.toD.step⟩
end
end Go.Proofs.YtlfmkiclaijokaaGreatDoor

namespace Go.Proofs.YtlfmkiclaijokaaGreatDoor

theorem get_mem : ∀ {fs : List FileP} {f : FileP}, SortedF fs → f ∈ fs → getF fs f.name = some f
  | [], _, _, h => by cases h
  | g :: fs, f, hs, h => by
    obtain ⟨h1, h2⟩ := List.pairwise_cons.1 hs
    rw [getF_cons]
    rcases List.mem_cons.1 h with rfl | h
    · exact if_pos rfl
    · have hlt := h1 f h
      rw [if_neg (fun e => by rw [e, ltN_irrefl] at hlt; cases hlt)]
      exact get_mem h2 h

/-- A disk that is on, of which each file is told. -/
structure Files (d : DiskP) (G : Bs → Option FileP) : Prop where
  sorted : SortedF d.files
  set : -1 ≤ d.set
  quota : d.quota = 1048576
  off : d.off = false
  get : ∀ k, getF d.files k = G k

section
variable {d : DiskP} {G : Bs → Option FileP}

theorem Files.step (h : Files d G) (hst : stepOk d = true) : Files (stepD d) G :=
  ⟨by rw [stepD_files]; exact h.sorted, stepD_set _, by rw [stepD_quota]; exact h.quota, by rw [stepD_off, hst, h.off]; rfl, by rw [stepD_files]; exact h.get⟩

theorem Files.put (h : Files d G) (f : FileP) : Files { d with files := putF f d.files } (fun k => if f.name = k then some f else G k) :=
  ⟨sorted_put f _ h.sorted, h.set, h.quota, h.off, fun k => by show getF (putF f d.files) k = _; rw [get_put, h.get]⟩

theorem Files.del (h : Files d G) (n : Bs) : Files { d with files := delF n d.files } (fun k => if k = n then none else G k) :=
  ⟨sorted_del n _ h.sorted, h.set, h.quota, h.off, fun k => by show getF (delF n d.files) k = _; rw [get_del, h.get]⟩

theorem Files.congr (h : Files d G) {G' : Bs → Option FileP} (e : ∀ k, G k = G' k) : Files d G' := ⟨h.sorted, h.set, h.quota, h.off, fun k => (h.get k).trans (e k)⟩

theorem Files.fileOf (h : Files d G) (n : Bs) : fileOf d n = (G n).getD ⟨n, [], [], false⟩ := by
  unfold Go.Proofs.YtlfmkiclaijokaaGreatDoor.fileOf
  rw [h.get]

theorem Files.dries (h : Files d G) {n m : Bs} {f : FileP} {left : Bs → Bs × Int} (h1 : badName n = false) (h2 : badName m = false) (hf : G n = some f) (hl : (left f.all).2 = 0) :
    (stepOk d = true ∧ driesD d n m left = (0, { stepD d with files := putF ⟨m, (left f.all).1, [], true⟩ (delF n d.files) }) ∧ Files { stepD d with files := putF ⟨m, (left f.all).1, [], true⟩ (delF n d.files) } (fun k => if m = k then some ⟨m, (left f.all).1, [], true⟩ else if k = n then none else G k)) ∨
    (stepOk d = false ∧ driesD d n m left = (40, stepD d)) := by
  have hd := dries_ok (d := d) (left := left) h.off h1 h2 ((h.get n).trans hf) hl
  rw [hd]
  rcases hst : stepOk d with _ | _
  · exact .inr ⟨rfl, if_neg (by decide)⟩
  · refine .inl ⟨rfl, if_pos rfl, ?_⟩
    have h3 := ((h.step hst).del n).put ⟨m, (left f.all).1, [], true⟩
    have e : ({ stepD d with files := putF ⟨m, (left f.all).1, [], true⟩ (delF n d.files) } : DiskP) = { stepD d with files := putF ⟨m, (left f.all).1, [], true⟩ (delF n (stepD d).files) } := by rw [stepD_files]
    rw [e]
    exact h3

/-- Which disks are good for an opening, told by their files. -/
theorem Files.toD (h : Files d G) {g : Nat} {s : Bs} {rows : List Bs} {sure : Nat} (hck : G ckN = if g = 0 then none else some ⟨ckN, frameB 75 g s, [], true⟩) (zero : g = 0 → s = [])
    (pre : ((G (nameW g)).getD ⟨nameW g, [], [], false⟩).all <+: recsB 1 rows) (dry : (recsB 1 (rows.take sure)).length ≤ ((G (nameW g)).getD ⟨nameW g, [], [], false⟩).dry.length) (sur : sure ≤ rows.length)
    (names : ∀ n f, G n = some f → n = ckN ∨ n = tmpN ∨ ∃ h, h < 128 ∧ n = nameW h) (gs : g < 100) (ss : s.length ≤ 6000) (rs : (recsB 1 rows).length ≤ 10000) : InvD d g s rows sure :=
  ⟨h.sorted, h.set, h.quota, by rw [h.get]; exact hck, zero, by rw [h.fileOf]; exact pre, by rw [h.fileOf]; exact dry, sur, fun f hf => names f.name f (by rw [← h.get]; exact get_mem h.sorted hf), gs, ss, rs⟩

theorem Files.toO (h : Files d G) {W : WalP} (hck : G ckN = if W.gen = 0 then none else some ⟨ckN, frameB 75 W.gen W.state, [], true⟩) (zero : W.gen = 0 → W.state = [])
    (all : ((G (nameW W.gen)).getD ⟨nameW W.gen, [], [], false⟩).all = recsB 1 W.recs) (dry : (recsB 1 (W.recs.take W.sure)).length ≤ ((G (nameW W.gen)).getD ⟨nameW W.gen, [], [], false⟩).dry.length) (sur : W.sure ≤ W.recs.length)
    (names : ∀ n f, G n = some f → n = ckN ∨ n = nameW W.gen) (size : W.size = (recsB 1 W.recs).length) (broken : W.broken = 0) (gs : W.gen < 100) (ss : W.state.length ≤ 6000) (rs : (recsB 1 W.recs).length ≤ 10000) : InvO d W :=
  ⟨h.sorted, h.set, h.quota, h.off, by rw [h.get]; exact hck, zero, by rw [h.fileOf]; exact all, by rw [h.fileOf]; exact dry, sur, fun f hf => names f.name f (by rw [← h.get]; exact get_mem h.sorted hf), size, broken, gs, ss, rs⟩
end

theorem InvO.files {d : DiskP} {W : WalP} (h : InvO d W) : Files d (getF d.files) := ⟨h.sorted, h.set, h.quota, h.off, fun _ => rfl⟩

theorem stepOff {d : DiskP} (h : stepOk d = false) : (stepD d).off = true := by rw [stepD_off, h]; rfl

/-- A Checkpoint. -/
theorem InvO.check {d : DiskP} {W : WalP} (h : InvO d W) (b : Bs) (hb : b.length ≤ 6000) (hg99 : W.gen + 1 < 100) :
    (checkW d W b = (2, W, d) ∧ W.sure < W.recs.length) ∨
    (W.sure = W.recs.length ∧ (checkW d W b).1 = 0 ∧ InvO (checkW d W b).2.2 (checkW d W b).2.1 ∧ (checkW d W b).2.1 = ⟨W.gen + 1, b, [], 0, 0, 0⟩) ∨
    (W.sure = W.recs.length ∧ (checkW d W b).1 = 40 ∧ (checkW d W b).2.2.off = true ∧ (InvD (checkW d W b).2.2 W.gen W.state W.recs W.sure ∨ InvD (checkW d W b).2.2 (W.gen + 1) b [] 0)) := by
  by_cases hs : W.sure < W.recs.length
  · refine .inl ⟨?_, hs⟩
    unfold checkW
    rw [if_neg (by simp [h.broken]), if_neg (by omega), if_pos hs]
  have hsu := h.sur
  have hse : W.sure = W.recs.length := by omega
  right
  have hg : W.gen < 128 := by omega
  have hg1 : W.gen + 1 < 128 := by omega
  have hfl := frameB_length 75 (W.gen + 1) b
  have hu := h.used
  have hF := h.files
  have htmp : getF d.files tmpN = none := by
    rcases hx : getF d.files tmpN with _ | f
    · rfl
    · exfalso
      obtain ⟨hn, hm⟩ := getF_name hx
      rcases h.names f hm with e | e
      · exact tmp_ck (hn.symm.trans e)
      · exact nameW_tmp hg (e.symm.trans hn)
  have h0 : step0 d = (0, d) := by
    have hr : readD d tmpN = ([], 5) := by
      unfold readD
      rw [h.bars _ tmp_bad, if_neg (by decide), htmp]
    unfold step0
    rw [hr]
    exact if_neg (by decide)
  obtain ⟨fr, hfr⟩ : ∃ fr, frameB 75 (W.gen + 1) b = fr := ⟨_, rfl⟩
  rw [hfr] at hfl
  have hfo : fileOf d tmpN = ⟨tmpN, [], [], false⟩ := by unfold fileOf; rw [htmp]; rfl
  have hE : appE d tmpN fr = 0 := by
    unfold appE
    rw [h.bars _ tmp_bad, if_neg (by decide), if_neg (by rw [hfl, hfo]; show ¬ ((8388608 : Nat) : Int) - ((0 : Nat) : Int) < _; omega), if_neg (by rw [hfl, h.quota]; omega)]
  have hput : appPut d tmpN fr = { d with files := putF ⟨tmpN, [], fr, false⟩ d.files } := by unfold appPut; rw [hfo]; rfl
  have h1 : appendD d tmpN fr = (if stepOk d then 0 else 40, stepD { d with files := putF ⟨tmpN, [], fr, false⟩ d.files }) := by
    unfold appendD
    rw [hE, if_neg (by decide), hput]
    rfl
  have hF1 := hF.put ⟨tmpN, [], fr, false⟩
  -- the old state holds as long as only the new file turns
  have old : ∀ (d' : DiskP) (G : Bs → Option FileP), Files d' G → (∀ k, k ≠ tmpN → G k = getF d.files k) → InvD d' W.gen W.state W.recs W.sure := fun d' G hG e => by
    have hn := e (nameW W.gen) (nameW_tmp hg)
    have hfo2 : ((G (nameW W.gen)).getD ⟨nameW W.gen, [], [], false⟩) = fileOf d (nameW W.gen) := by rw [hn]; rfl
    refine hG.toD (by rw [e ckN (Ne.symm tmp_ck)]; exact h.ck) h.zero (by rw [hfo2, h.all]; exact List.prefix_refl _) (by rw [hfo2]; exact h.dry) h.sur (fun n f hf => ?_) h.gs h.ss h.rs
    by_cases ht : n = tmpN
    · exact .inr (.inl ht)
    · rw [e n ht] at hf
      obtain ⟨hn2, hm⟩ := getF_name hf
      rcases h.names f hm with e2 | e2
      · exact .inl (hn2.symm.trans e2)
      · exact .inr (.inr ⟨W.gen, hg, hn2.symm.trans e2⟩)
  have hW : checkW d W b = if (appendD d tmpN fr).1 ≠ 0 then ((appendD d tmpN fr).1, metW (appendD d tmpN fr).1 W, (appendD d tmpN fr).2) else
      if (driesD (appendD d tmpN fr).2 tmpN tmpN wholeL).1 ≠ 0 then ((driesD (appendD d tmpN fr).2 tmpN tmpN wholeL).1, metW (driesD (appendD d tmpN fr).2 tmpN tmpN wholeL).1 W, (driesD (appendD d tmpN fr).2 tmpN tmpN wholeL).2) else
      if (driesD (driesD (appendD d tmpN fr).2 tmpN tmpN wholeL).2 tmpN ckN wholeL).1 ≠ 0 then ((driesD (driesD (appendD d tmpN fr).2 tmpN tmpN wholeL).2 tmpN ckN wholeL).1, metW (driesD (driesD (appendD d tmpN fr).2 tmpN tmpN wholeL).2 tmpN ckN wholeL).1 W, (driesD (driesD (appendD d tmpN fr).2 tmpN tmpN wholeL).2 tmpN ckN wholeL).2) else
      if (readD (driesD (driesD (appendD d tmpN fr).2 tmpN tmpN wholeL).2 tmpN ckN wholeL).2 (nameW W.gen)).2 = 0 then
        ((removeD (driesD (driesD (appendD d tmpN fr).2 tmpN tmpN wholeL).2 tmpN ckN wholeL).2 (nameW W.gen)).1, metW (removeD (driesD (driesD (appendD d tmpN fr).2 tmpN tmpN wholeL).2 tmpN ckN wholeL).2 (nameW W.gen)).1 ⟨W.gen + 1, b, [], 0, 0, 0⟩, (removeD (driesD (driesD (appendD d tmpN fr).2 tmpN tmpN wholeL).2 tmpN ckN wholeL).2 (nameW W.gen)).2)
      else (0, ⟨W.gen + 1, b, [], 0, 0, 0⟩, (driesD (driesD (appendD d tmpN fr).2 tmpN tmpN wholeL).2 tmpN ckN wholeL).2) := by
    unfold checkW
    rw [if_neg (by simp [h.broken]), if_neg (by omega), if_neg hs, h0]
    dsimp only
    rw [if_neg (by decide), hfr]
  rw [hW]
  clear hW
  rcases hst : stepOk d with _ | _
  · rw [h1, hst]
    dsimp only
    rw [if_neg (show ¬ (false = true) by decide), if_pos (by decide)]
    have hst2 : stepOk ({ d with files := putF ⟨tmpN, [], fr, false⟩ d.files } : DiskP) = false := hst
    exact .inr ⟨hse, rfl, stepOff hst2, .inl ((old _ _ hF1 (fun k hk => by dsimp only; rw [if_neg (Ne.symm hk)])).step)⟩
  have hst2 : stepOk ({ d with files := putF ⟨tmpN, [], fr, false⟩ d.files } : DiskP) = true := hst
  have hF2 := hF1.step hst2
  rw [h1, hst, if_pos rfl]
  dsimp only
  rw [if_neg (show ¬ ((0 : Int) ≠ 0) by decide)]
  generalize stepD ({ d with files := putF ⟨tmpN, [], fr, false⟩ d.files } : DiskP) = d1 at hF2
  rcases hF2.dries (n := tmpN) (m := tmpN) (left := wholeL) tmp_bad tmp_bad (if_pos rfl) rfl with ⟨ha, hb1, hF3⟩ | ⟨ha, hb1⟩
  case inr =>
    rw [hb1]
    dsimp only
    rw [if_pos (show (40 : Int) ≠ 0 by decide)]
    exact .inr ⟨hse, rfl, stepOff ha, .inl ((old _ _ hF2 (fun k hk => by dsimp only; rw [if_neg (Ne.symm hk)])).step)⟩
  rw [hb1]
  dsimp only
  rw [if_neg (show ¬ ((0 : Int) ≠ 0) by decide)]
  generalize ({ stepD d1 with files := putF ⟨tmpN, (wholeL (FileP.all ⟨tmpN, [], fr, false⟩)).1, [], true⟩ (delF tmpN d1.files) } : DiskP) = d2 at hF3
  rcases hF3.dries (n := tmpN) (m := ckN) (left := wholeL) tmp_bad ck_bad (if_pos rfl) rfl with ⟨ha2, hb2, hF4⟩ | ⟨ha2, hb2⟩
  case inr =>
    rw [hb2]
    dsimp only
    rw [if_pos (show (40 : Int) ≠ 0 by decide)]
    exact .inr ⟨hse, rfl, stepOff ha2, .inl ((old _ _ hF3 (fun k hk => by dsimp only; rw [if_neg (Ne.symm hk), if_neg hk, if_neg (Ne.symm hk)])).step)⟩
  rw [hb2]
  dsimp only
  rw [if_neg (show ¬ ((0 : Int) ≠ 0) by decide)]
  have hF5 : Files _ (fun k => if ckN = k then some ⟨ckN, fr, [], true⟩ else if k = tmpN then none else getF d.files k) := hF4.congr (fun k => by
    dsimp only
    by_cases e1 : ckN = k
    · rw [if_pos e1, if_pos e1]; simp [wholeL, FileP.all]
    · rw [if_neg e1, if_neg e1]
      by_cases e2 : k = tmpN
      · rw [if_pos e2, if_pos e2]
      · rw [if_neg e2, if_neg e2, if_neg (Ne.symm e2), if_neg e2, if_neg (Ne.symm e2)])
  clear hF4 hb2
  generalize ({ stepD d2 with files := putF ⟨ckN, (wholeL (FileP.all ⟨tmpN, (wholeL (FileP.all ⟨tmpN, [], fr, false⟩)).1, [], true⟩)).1, [], true⟩ (delF tmpN d2.files) } : DiskP) = d3 at hF5 ⊢
  have hne1 : nameW (W.gen + 1) ≠ nameW W.gen := fun e => by
    have := nameW_inj hg1 hg e
    omega
  have hgo1 : ∀ (n : Bs), n ≠ ckN → n ≠ nameW W.gen → (if ckN = n then some (⟨ckN, fr, [], true⟩ : FileP) else if n = tmpN then none else getF d.files n) = none := fun n e1 e2 => by
    rw [if_neg (Ne.symm e1)]
    by_cases e3 : n = tmpN
    · rw [if_pos e3]
    · rw [if_neg e3]
      rcases hx : getF d.files n with _ | f
      · rfl
      · obtain ⟨hn2, hm⟩ := getF_name hx
        rcases h.names f hm with e | e
        · exact absurd (hn2.symm.trans e) e1
        · exact absurd (hn2.symm.trans e) e2
  have hnewD : InvD d3 (W.gen + 1) b [] 0 := by
    refine hF5.toD (by rw [if_pos rfl, if_neg (by omega), hfr]) (fun e => by omega) ?_ ?_ (Nat.le_refl _) (fun n f hf => ?_) hg99 hb (by show 0 ≤ _; omega)
    · rw [hgo1 _ (nameW_ck hg1) hne1]; exact List.nil_prefix
    · rw [hgo1 _ (nameW_ck hg1) hne1]; exact Nat.le_refl _
    · by_cases e1 : n = ckN
      · exact .inl e1
      · by_cases e2 : n = nameW W.gen
        · exact .inr (.inr ⟨W.gen, hg, e2⟩)
        · rw [hgo1 n e1 e2] at hf; cases hf
  have hnb := nameW_bad hg
  have hbars3 : barsD d3 [nameW W.gen] = 0 := by unfold barsD; rw [hF5.off]; simp [hnb]
  rcases hx : getF d.files (nameW W.gen) with _ | f
  · have hg3 : getF d3.files (nameW W.gen) = none := by rw [hF5.get, if_neg (Ne.symm (nameW_ck hg)), if_neg (nameW_tmp hg), hx]
    have hr : (readD d3 (nameW W.gen)).2 ≠ 0 := by unfold readD; rw [hbars3, if_neg (by decide), hg3]; decide
    rw [if_neg hr]
    refine .inl ⟨hse, rfl, ?_, rfl⟩
    refine hF5.toO (W := ⟨W.gen + 1, b, [], 0, 0, 0⟩) (by rw [if_pos rfl, if_neg (show ¬ W.gen + 1 = 0 by omega), hfr]) (fun e => absurd e (show ¬ W.gen + 1 = 0 by omega)) ?_ ?_ (Nat.le_refl _) (fun n f hf => ?_) rfl rfl hg99 hb (by show 0 ≤ _; omega)
    · show ((if ckN = nameW (W.gen + 1) then _ else _ : Option FileP).getD _).all = []
      rw [hgo1 _ (nameW_ck hg1) hne1]; rfl
    · show 0 ≤ _; omega
    · by_cases e1 : n = ckN
      · exact .inl e1
      · by_cases e2 : n = nameW W.gen
        · rw [e2, if_neg (Ne.symm (nameW_ck hg)), if_neg (nameW_tmp hg), hx] at hf; cases hf
        · rw [hgo1 n e1 e2] at hf; cases hf
  · have hg3 : getF d3.files (nameW W.gen) = some f := by rw [hF5.get, if_neg (Ne.symm (nameW_ck hg)), if_neg (nameW_tmp hg), hx]
    have hr : (readD d3 (nameW W.gen)).2 = 0 := by unfold readD; rw [hbars3, if_neg (by decide), hg3]
    have hh : hasN d3.files (nameW W.gen) = true := by unfold hasN; rw [hg3]; rfl
    rw [if_pos hr, removeD_ok d3 _ hF5.off hnb hh]
    rcases hst3 : stepOk d3 with _ | _
    · rw [if_neg (by decide)]
      exact .inr ⟨hse, rfl, stepOff hst3, .inr hnewD.step⟩
    · rw [if_pos rfl]
      refine .inl ⟨hse, rfl, ?_, rfl⟩
      have hF6 := (hF5.step hst3).del (nameW W.gen)
      rw [stepD_files] at hF6
      show InvO { stepD d3 with files := delF (nameW W.gen) d3.files } ⟨W.gen + 1, b, [], 0, 0, 0⟩
      refine hF6.toO (W := ⟨W.gen + 1, b, [], 0, 0, 0⟩) (by rw [if_neg (Ne.symm (nameW_ck hg)), if_pos rfl, if_neg (show ¬ W.gen + 1 = 0 by omega), hfr]) (fun e => absurd e (show ¬ W.gen + 1 = 0 by omega)) ?_ ?_ (Nat.le_refl _) (fun n f hf => ?_) rfl rfl hg99 hb (by show 0 ≤ _; omega)
      · show ((if nameW (W.gen + 1) = nameW W.gen then none else (if ckN = nameW (W.gen + 1) then _ else _) : Option FileP).getD _).all = []
        rw [if_neg hne1, hgo1 _ (nameW_ck hg1) hne1]; rfl
      · show 0 ≤ _; omega
      · by_cases e1 : n = ckN
        · exact .inl e1
        · by_cases e2 : n = nameW W.gen
          · rw [if_pos e2] at hf; cases hf
          · rw [if_neg e2, hgo1 n e1 e2] at hf; cases hf
end Go.Proofs.YtlfmkiclaijokaaGreatDoor

namespace Go.Proofs.YtlfmkiclaijokaaGreatDoor

theorem names_nodup : ∀ {fs : List FileP}, SortedF fs → (fs.map FileP.name).Nodup
  | [], _ => List.nodup_nil
  | f :: fs, hs => by
    obtain ⟨h1, h2⟩ := List.pairwise_cons.1 hs
    rw [List.map_cons, List.nodup_cons]
    refine ⟨fun h => ?_, names_nodup h2⟩
    obtain ⟨g, hg, e⟩ := List.mem_map.1 h
    have := h1 g hg
    rw [← e, ltN_irrefl] at this
    cases this

theorem len_del (fs : List FileP) (hs : SortedF fs) (n : Bs) : fs.length ≤ (delF n fs).length + 1 := by
  rcases h : getF fs n with _ | f
  · have : delF n fs = fs := by
      unfold delF
      rw [List.filter_eq_self]
      intro f hf
      unfold getF at h
      have := List.find?_eq_none.1 h f hf
      simpa using this
    rw [this]
    omega
  · have := (used_del fs hs n f h).2
    omega

theorem InvO.few {d : DiskP} {W : WalP} (h : InvO d W) : d.files.length ≤ 2 := by
  have h1 := len_del d.files h.sorted ckN
  have h2 := len_del (delF ckN d.files) (sorted_del _ _ h.sorted) (nameW W.gen)
  have : delF (nameW W.gen) (delF ckN d.files) = [] := by
    unfold delF
    rw [List.filter_filter, List.filter_eq_nil_iff]
    intro f hf
    rcases h.names f hf with e | e <;> simp [e]
  rw [this] at h2
  simp at h2
  omega

section
variable {d : DiskP} {g : Nat} {s : Bs} {rows : List Bs} {sure : Nat}

theorem InvD.short (h : InvD d g s rows sure) : ∀ f ∈ d.files, f.name.length ≤ 1000000000 := fun f hf => by
  rcases h.names f hf with e | e | ⟨k, _, e⟩
  · rw [e]; decide
  · rw [e]; decide
  · rw [e]; have := nameW_len k; omega

theorem InvD.load (h : InvD d g s rows sure) (ho : d.off = false) : loadP d = some (s, g) := by
  have hb : barsD d [ckN] = 0 := by unfold barsD; rw [ho]; simp [ck_bad]
  by_cases hg : g = 0
  · have hr : readD d ckN = ([], 5) := by
      unfold readD
      rw [hb, if_neg (by decide), h.ck, if_pos hg]
    unfold loadP
    rw [hr, h.zero hg, hg]
    exact if_neg (by decide)
  · have hr : readD d ckN = (frameB 75 g s ++ [], 0) := by
      unfold readD
      rw [hb, if_neg (by decide), h.ck, if_neg hg]
      rfl
    have hgs := h.gs
    have hss := h.ss
    unfold loadP
    rw [hr]
    dsimp only
    rw [if_pos rfl, unframe_frame 75 8000000 g s [] (by omega) (by omega) (by omega) (by decide)]

theorem tmp_remove (own : Bs) : toRemove own tmpN = true := by unfold toRemove; simp

theorem name_remove {g h : Nat} (hg : g < 128) (hh : h < 128) (e : toRemove (nameW g) (nameW h) = false) : h = g := by
  have hp : logPre.isPrefixOf (nameW h) = true := by unfold nameW; rw [List.isPrefixOf_iff_prefix]; exact List.prefix_append _ _
  unfold toRemove at e
  rw [hp] at e
  simp only [Bool.true_and, Bool.or_eq_false_iff, decide_eq_false_iff_not, ne_eq, Classical.not_not] at e
  exact nameW_inj hh hg e.2

/-- AN OPENING. -/
theorem InvD.open_ok (h : InvD d g s rows sure) (ho : d.off = false) :
    (∃ (k : Nat) (W : WalP) (d' : DiskP), openW d = (0, some W, d') ∧ InvO d' W ∧ W.gen = g ∧ W.state = s ∧ W.recs = rows.take k ∧ sure ≤ k ∧ k ≤ rows.length ∧ W.sure = W.recs.length) ∨
    (∃ d' : DiskP, openW d = (40, none, d') ∧ d'.off = true ∧ InvD d' g s rows sure ∧ d.set ≠ -1) := by
  have hg : g < 128 := by have := h.gs; omega
  have hO : openW d = if (tidyP (nameW g) (d.files.map FileP.name) d).1 ≠ 0 then ((tidyP (nameW g) (d.files.map FileP.name) d).1, none, (tidyP (nameW g) (d.files.map FileP.name) d).2) else lastP (tidyP (nameW g) (d.files.map FileP.name) d).2 g s := by
    unfold openW
    rw [if_neg (by rw [ho]; decide), h.load ho]
  rw [hO]
  have hhas : ∀ n ∈ d.files.map FileP.name, hasN d.files n = true := fun n hn => by
    obtain ⟨f, hf, rfl⟩ := List.mem_map.1 hn
    unfold hasN
    rw [get_mem h.sorted hf]
    rfl
  rcases tidy_inv (nameW g) rfl (d.files.map FileP.name) d h ho (names_nodup h.sorted) hhas with ⟨t1, t2, t3, t4, t5, t6⟩ | ⟨t1, t2, t3, t4⟩
  case inr =>
    right
    rw [t1, if_pos (by decide)]
    exact ⟨_, rfl, t2, t3, t4⟩
  rw [t1, if_neg (by decide)]
  generalize tidyP (nameW g) (d.files.map FileP.name) d = t at t2 t3 t4 t6
  obtain ⟨t0, d2⟩ := t
  dsimp only at t2 t3 t4 t6 ⊢
  have hnames : ∀ f ∈ d2.files, f.name = ckN ∨ f.name = nameW g := fun f hf => by
    obtain ⟨hf1, hf2⟩ := t4 f hf
    have hr : toRemove (nameW g) f.name = false := by
      rcases hx : toRemove (nameW g) f.name with _ | _
      · rfl
      · exact absurd ⟨List.mem_map.2 ⟨f, hf1, rfl⟩, hx⟩ hf2
    rcases h.names f hf1 with e | e | ⟨k, hk, e⟩
    · exact .inl e
    · rw [e, tmp_remove] at hr; cases hr
    · rw [e] at hr
      rw [e, name_remove hg hk hr]
      exact .inr rfl
  have hF : Files d2 (getF d2.files) := ⟨t3.sorted, t3.set, t3.quota, t2, fun _ => rfl⟩
  have hck := t3.ck
  have hbad := nameW_bad hg
  have hbars : barsD d2 [nameW g] = 0 := by unfold barsD; rw [t2]; simp [hbad]
  have hrl : ∀ b ∈ rows, b.length ≤ 1048576 := fun b hb => by have := recsB_mem hb 1; have := t3.rs; omega
  have hmany := recsB_many rows 1
  have hrs := t3.rs
  unfold lastP
  rcases hx : getF d2.files (nameW g) with _ | f
  · have hr : readD d2 (nameW g) = ([], 5) := by unfold readD; rw [hbars, if_neg (by decide), hx]
    rw [hr]
    dsimp only
    rw [if_pos (by decide)]
    left
    have hfo : fileOf d2 (nameW g) = ⟨nameW g, [], [], false⟩ := by unfold fileOf; rw [hx]; rfl
    have hsure : sure = 0 := by
      have h1 := t3.dry
      rw [hfo] at h1
      have h2 := recsB_many (rows.take sure) 1
      have h3 : (recsB 1 (rows.take sure)).length ≤ 0 := h1
      rw [List.length_take] at h2
      have := t3.sur
      omega
    refine ⟨0, ⟨g, s, [], 0, 0, 0⟩, d2, rfl, ?_, rfl, rfl, rfl, by omega, Nat.zero_le _, rfl⟩
    refine hF.toO (W := ⟨g, s, [], 0, 0, 0⟩) hck t3.zero ?_ ?_ (Nat.le_refl _) (fun n f hf => ?_) rfl rfl t3.gs t3.ss (by show 0 ≤ _; omega)
    · show ((getF d2.files (nameW g)).getD _).all = []
      rw [hx]; rfl
    · show 0 ≤ _; omega
    · obtain ⟨hn, hm⟩ := getF_name hf
      rw [← hn]
      exact hnames f hm
  · have hr : readD d2 (nameW g) = (f.all, 0) := by unfold readD; rw [hbars, if_neg (by decide), hx]
    have hfo : fileOf d2 (nameW g) = f := by unfold fileOf; rw [hx]; rfl
    have hpre := t3.pre
    have hdry := t3.dry
    rw [hfo] at hpre hdry
    obtain ⟨k, t, hk, hc, hu⟩ := prefix_recs rows hrl 1 f.all (by omega) hpre
    have hsc : scanP (f.all.length + 1) 1 f.all = (rows.take k, (recsB 1 (rows.take k)).length) := by
      have h2 := recsB_many (rows.take k) 1
      have h3 : (recsB 1 (rows.take k)).length ≤ f.all.length := by rw [hc, List.length_append]; omega
      have := scan_recs (rows.take k) t (fun b hb => hrl b (List.mem_of_mem_take hb)) hu (f.all.length + 1) 1 (by omega) (Nat.le_refl _) (by rw [List.length_take]; omega)
      rw [← hc] at this
      exact this
    have hsk : sure ≤ k := by
      refine recsB_len_le rows 1 sure k t3.sur t hu hrl (Nat.le_refl _) (by omega) (by rw [← hc]; exact hpre) ?_
      rw [← hc]
      refine Nat.le_trans hdry ?_
      unfold FileP.all
      rw [List.length_append]
      omega
    rw [hr]
    dsimp only
    rw [if_neg (by decide), hsc]
    dsimp only
    have hlen : f.all.length = (recsB 1 (rows.take k)).length + t.length := by rw [hc, List.length_append]
    have htake : f.all.take (recsB 1 (rows.take k)).length = recsB 1 (rows.take k) := by rw [hc]; exact List.take_left
    -- either way the file is cut to the records, or the power goes
    have key : ∃ left : Bs → Bs × Int, (left f.all) = (recsB 1 (rows.take k), 0) ∧ (if (recsB 1 (rows.take k)).length < f.all.length then driesD d2 (nameW g) (nameW g) (cutL (recsB 1 (rows.take k)).length) else driesD d2 (nameW g) (nameW g) wholeL) = driesD d2 (nameW g) (nameW g) left := by
      by_cases hlt : (recsB 1 (rows.take k)).length < f.all.length
      · refine ⟨cutL (recsB 1 (rows.take k)).length, ?_, if_pos hlt⟩
        unfold cutL
        rw [if_neg (by omega), Int.toNat_natCast, htake]
      · refine ⟨wholeL, ?_, if_neg hlt⟩
        have : t = [] := List.eq_nil_of_length_eq_zero (by omega)
        rw [hc, this, List.append_nil]
        rfl
    obtain ⟨left, hl, he⟩ := key
    rw [he]
    rcases hF.dries (n := nameW g) (m := nameW g) (left := left) hbad hbad hx (by rw [hl]) with ⟨ha, hb, hF2⟩ | ⟨ha, hb⟩
    · left
      rw [hb]
      dsimp only
      rw [if_neg (by decide)]
      rw [hl] at hF2
      dsimp only at hF2
      refine ⟨k, ⟨g, s, rows.take k, (rows.take k).length, (recsB 1 (rows.take k)).length, 0⟩, _, rfl, ?_, rfl, rfl, rfl, hsk, hk, rfl⟩
      rw [hl]
      dsimp only
      have hmono := recsB_len_mono rows 1 k rows.length hk
      rw [List.take_length] at hmono
      refine hF2.toO (W := ⟨g, s, rows.take k, (rows.take k).length, (recsB 1 (rows.take k)).length, 0⟩) ?_ t3.zero ?_ ?_ (Nat.le_refl _) (fun n f hf => ?_) rfl rfl t3.gs t3.ss (by show (recsB 1 (rows.take k)).length ≤ _; omega)
      · rw [if_neg (nameW_ck hg), if_neg (Ne.symm (nameW_ck hg))]
        exact hck
      · show ((if nameW g = nameW g then some (⟨nameW g, recsB 1 (rows.take k), [], true⟩ : FileP) else _).getD _).all = _
        rw [if_pos rfl]
        show recsB 1 (rows.take k) ++ [] = _
        rw [List.append_nil]
      · show (recsB 1 ((rows.take k).take (rows.take k).length)).length ≤ ((if nameW g = nameW g then some (⟨nameW g, recsB 1 (rows.take k), [], true⟩ : FileP) else _).getD _).dry.length
        rw [if_pos rfl, List.take_length]
        exact Nat.le_refl _
      · by_cases e : nameW g = n
        · exact .inr e.symm
        · rw [if_neg e, if_neg (Ne.symm e)] at hf
          obtain ⟨hn, hm⟩ := getF_name hf
          rw [← hn]
          exact hnames f hm
    · right
      rw [hb]
      dsimp only
      rw [if_pos (by decide)]
      refine ⟨_, rfl, stepOff ha, t3.step, fun e => ?_⟩
      have := t6 e
      unfold stepOk at ha
      rw [this] at ha
      simp at ha
end
end Go.Proofs.YtlfmkiclaijokaaGreatDoor
