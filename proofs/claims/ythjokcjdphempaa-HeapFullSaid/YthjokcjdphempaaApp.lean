/- What an append onto a slice of ints does to memory: in place, or in a new array. -/
import Derived.Test.YthjokcjdphempaaHeap
import Derived.Lib.AppendZerosOnto
import Derived.Laws.CopyRow
namespace Go.Proofs.Ythjokcjdphempaa
open Go.RowKit Hp

theorem info3 : (Try.prog.info? 3).map (fun i => (i.zero, i.size, i.bytes)) = some (some (.int .i64 0), 1, 8) := by kernel_rfl

theorem ints_append (a b : List Int) : ints (a ++ b) = ints a ++ ints b := by simp [ints]
theorem ints_length (a : List Int) : (ints a).length = a.length := by simp [ints]
theorem ints_one (l : List Int) : ∀ u ∈ ints l, u.oneCell' = true := by
  intro u hu
  obtain ⟨x, _, rfl⟩ := List.mem_map.1 hu
  rfl

/-- The cells of ints in a block. -/
theorem ints_cell {w : World} {b : Nat} {cs : List Int} (h : w.heap[b]? = some (.cells (ints cs).toArray 3 (0, 0))) {k : Nat} {x : Int} (hx : cs[k]? = some x) : w.cell? ⟨b, k, none⟩ = some (.int .i64 x) := by
  simp only [World.cell?, h, Option.isSome_none, Bool.false_eq_true, if_false]
  unfold ints
  rw [List.getElem?_toArray, List.getElem?_map, hx]; rfl

theorem zeroCells_ints (n : Nat) : Builtin.zeroCells (Value.int .i64 0).cells n = (ints (List.replicate n 0)).toArray := by
  unfold Builtin.zeroCells ints
  simp only [Value.cells, List.size_toArray, List.length_cons, List.length_nil, Nat.zero_add, Nat.mul_one, List.map_replicate]
  apply Array.ext
  · simp
  · intro i h1 h2
    simp [Nat.mod_one]

/-- Other blocks of a step that lays one block at the end. -/
theorem fr_alloc (w : World) (o : Obj) (B : Nat → Prop) : Fr B w (w.drew.alloc o) := ⟨rfl, rfl, rfl, by simp, fun k hk _ => heap_alloc_old w.drew o (r := k) hk⟩

theorem IsSl.of_block {w w' : World} {v : Value} {xs : List Int} (h : IsSl w v xs) (hb : ∀ k, v.ownBlock = some k → w'.heap[k]? = w.heap[k]?) : IsSl w' v xs := by
  rcases h with h | ⟨b, off, cap, cs, rfl, h1, h2⟩
  · exact .inl h
  · exact .inr ⟨b, off, cap, cs, rfl, by rw [hb b rfl]; exact h1, h2⟩

theorem IsSl.lt {w : World} {v : Value} {xs : List Int} (h : IsSl w v xs) {k : Nat} (hk : v.ownBlock = some k) : k < w.heap.size := by
  rcases h with ⟨rfl, _⟩ | ⟨b, off, cap, cs, rfl, h1, h2⟩
  · cases hk
  · cases hk; exact (Array.getElem?_eq_some_iff.1 h1).1

/-- What an append leaves: the new slice, the old one as it was, all other blocks as they were. -/
structure Appended (w w' : World) (v v' : Value) (xs ys : List Int) : Prop where
  new : IsSl w' v' (xs ++ ys)
  old : IsSl w' v xs
  fr : Fr (fun k => v.ownBlock = some k) w w'
  blk : v'.ownBlock = v.ownBlock ∨ ∃ b, v'.ownBlock = some b ∧ w.heap.size ≤ b
  room : ∀ a n cap, v = .slice a n cap → n + ys.length ≤ cap → v' = .slice a (n + ys.length) cap ∧ w'.heap.size = w.heap.size

theorem app_room {w : World} {b off cap : Nat} {cs xs ys : List Int} (h1 : w.heap[b]? = some (.cells (ints cs).toArray 3 (0, 0))) (h2 : off + cap ≤ cs.length) (_h3 : xs.length ≤ cap) (h5 : cs.length ≤ maxLen) (h4 : (cs.drop off).take xs.length = xs)
    (hroom : xs.length + ys.length ≤ cap) :
    Appended w (w.setRow b ((ints cs).toArray.toList.take (off + xs.length + 0) ++ ints ys ++ (ints cs).toArray.toList.drop (off + xs.length + 0 + (ints ys).length)).toArray)
      (.slice (some ⟨b, off, none⟩) xs.length cap) (.slice (some ⟨b, off, none⟩) (xs.length + ys.length) cap) xs ys := by
  obtain ⟨cs', hcs'⟩ : ∃ cs', cs' = cs.take (off + xs.length) ++ ys ++ cs.drop (off + xs.length + ys.length) := ⟨_, rfl⟩
  have he : ((ints cs).toArray.toList.take (off + xs.length + 0) ++ ints ys ++ (ints cs).toArray.toList.drop (off + xs.length + 0 + (ints ys).length)).toArray = (ints cs').toArray := by
    rw [hcs']
    simp [ints, List.map_take, List.map_drop]
  rw [he]
  have hb' := setRow_heap w b (ints cs).toArray (ints cs').toArray 3 (0, 0) h1
  have hl : cs'.length = cs.length := by rw [hcs']; simp; omega
  have hd1 : (cs'.drop off).take xs.length = xs := by
    conv => rhs; rw [← h4]
    rw [hcs']
    apply List.ext_getElem?
    intro j
    rw [List.getElem?_take, List.getElem?_take]
    split
    · rw [List.getElem?_drop, List.getElem?_drop, List.append_assoc, List.getElem?_append_left (by simp; omega), List.getElem?_take, if_pos (by omega)]
    · rfl
  have hd2 : (cs'.drop off).take (xs ++ ys).length = xs ++ ys := by
    rw [List.length_append, List.take_add, hd1]
    congr 1
    rw [hcs', List.drop_drop, List.append_assoc, List.drop_append, List.drop_eq_nil_of_le (by simp; omega)]
    simp only [List.nil_append, List.length_take]
    rw [show off + xs.length - min (off + xs.length) cs.length = 0 by omega, List.drop_zero, List.take_left]
  refine ⟨.inr ⟨b, off, cap, cs', by rw [List.length_append], hb', by omega, by rw [List.length_append]; omega, by omega, hd2⟩, .inr ⟨b, off, cap, cs', rfl, hb', by omega, by omega, by omega, hd1⟩, ⟨rfl, rfl, rfl, by simp, ?_⟩, .inl rfl, ?_⟩
  · intro k hk hne
    exact setRow_other w b k _ (fun e => hne (by simp [Value.ownBlock, e]))
  · intro a n cap' e _
    cases e
    exact ⟨rfl, by simp⟩

theorem app_new {w : World} {v : Value} {xs ys : List Int} (h : IsSl w v xs) {n : Nat} (hl : (xs ++ ys).length ≤ n) (hn : n ≤ maxLen) (hgrow : ∀ a m cap, v = .slice a m cap → ¬ m + ys.length ≤ cap) :
    Appended w (w.drew.alloc (.cells ((ints xs).toArray ++ (ints ys).toArray ++ Builtin.zeroCells (Value.int .i64 0).cells (n - (xs ++ ys).length)) 3))
      v (.slice (some ⟨w.heap.size, 0, none⟩) (xs ++ ys).length n) xs ys := by
  have he : (ints xs).toArray ++ (ints ys).toArray ++ Builtin.zeroCells (Value.int .i64 0).cells (n - (xs ++ ys).length) = (ints (xs ++ ys ++ List.replicate (n - (xs ++ ys).length) 0)).toArray := by
    rw [zeroCells_ints, ints_append, ints_append]; simp
  rw [he]
  have hnew : (w.drew.alloc (.cells (ints (xs ++ ys ++ List.replicate (n - (xs ++ ys).length) 0)).toArray 3)).heap[w.heap.size]? = some (.cells (ints (xs ++ ys ++ List.replicate (n - (xs ++ ys).length) 0)).toArray 3 (0, 0)) :=
    heap_alloc_new w.drew _
  refine ⟨.inr ⟨w.heap.size, 0, n, _, rfl, hnew, by simp; simp at hl; omega, hl, by simp; simp at hl; omega, by rw [List.drop_zero, List.take_left]⟩, ?_, fr_alloc _ _ _, .inr ⟨_, rfl, Nat.le_refl _⟩, fun a m cap e hr => absurd hr (hgrow a m cap e)⟩
  exact h.of_block fun k hk => heap_alloc_old w.drew _ (r := k) (h.lt hk)

/-- **append(v, o...)**, o the words at ad. -/
theorem run_app {w : World} {v : Value} {xs ys : List Int} (h : IsSl w v xs) {ad : Addr} {c : Nat} (ty : TypeId) (hn : ∀ j y, ys[j]? = some y → w.cell? (ad.add j) = some (.int .i64 y)) (hl : xs.length + ys.length ≤ 1000000000000) :
    ∃ v' w', (Builtin.append_ #[35, 35] ty #[v, .slice (some ad) ys.length c]).run Try.prog w = .ok v' w' ∧ Appended w w' v v' xs ys := by
  obtain ⟨i0, hi, hz0, hz1, hz2⟩ := info_parts info3
  have hnews : ∀ j u, (ints ys)[j]? = some u → w.cell? (ad.add j) = some u := by
    intro j u hu
    unfold ints at hu
    rw [List.getElem?_map] at hu
    cases hy : ys[j]? with
    | none => rw [hy] at hu; cases hu
    | some y => rw [hy] at hu; cases hu; exact hn j y hy
  have hyl : (ints ys).length = ys.length * i0.size := by rw [hz1, ints_length, Nat.mul_one]
  have hcs : (Value.int .i64 0).cells.size = 1 := rfl
  rcases h with ⟨rfl, rfl⟩ | ⟨b, off, cap, cs, rfl, h1, h2, h3, h5, h4⟩
  · by_cases hm : ys.length = 0
    · have : ys = [] := List.eq_nil_of_length_eq_zero hm
      subst this
      refine ⟨.slice none 0 0, w, ?_, .inl ⟨rfl, rfl⟩, .inl ⟨rfl, rfl⟩, Fr.refl _ _, .inl rfl, fun a n cap e _ => by cases e; exact ⟨rfl, rfl⟩⟩
      simp [Builtin.append_, run_underlying Try.underlying35, sizeOf, typeInfo, hi, Builtin.lenOf, Builtin.firstCells, loadCells, loadCellsFrom]
    · have hr := run_append_nil (P := Try.prog) w 35 ty 3 i0 (.int .i64 0) Try.underlying35 hi hz0 ad ys.length c (ints ys) hyl hnews (by omega) (by omega) (by rw [hz2]; omega)
      refine ⟨_, _, hr, ?_⟩
      have := app_new (w := w) (v := .slice none 0 0) (xs := []) (ys := ys) (n := grownCap w ys.length 0 3) (.inl ⟨rfl, rfl⟩) (by simpa using grownCap_ge w ys.length 0 3) (grownCap_le_maxLen _ _ _ _ (by unfold maxLen; omega)) (fun a m cap e => by cases e; omega)
      simpa [ints] using this
  · by_cases hroom : xs.length + ys.length ≤ cap
    · have hst := run_storeCells_at Try.prog b (off + xs.length) 3 (ints ys) 0 (ints cs).toArray w h1 (by simp [ints]; omega) (ints_one ys)
      have hf := run_firstCells_some (P := Try.prog) w i0.size ys.length ad ys.length c (ints ys) hyl hnews
      refine ⟨.slice (some ⟨b, off, none⟩) (xs.length + ys.length) cap, _, ?_, app_room h1 h2 h3 h5 h4 hroom⟩
      have hadd : (⟨b, off, none⟩ : Addr).add xs.length = ⟨b, off + xs.length, none⟩ := by unfold Addr.add; split <;> simp_all
      simp [Builtin.append_, run_underlying Try.underlying35, sizeOf, typeInfo, hi, hz1, Builtin.lenOf, hroom, hz1 ▸ hf, hadd, hst]
    · have holds : ∀ j u, (ints xs)[j]? = some u → w.cell? ((⟨b, off, none⟩ : Addr).add j) = some u := by
        intro j u hu
        have hadd : (⟨b, off, none⟩ : Addr).add j = ⟨b, off + j, none⟩ := by unfold Addr.add; split <;> simp_all
        rw [hadd]
        unfold ints at hu
        rw [List.getElem?_map] at hu
        cases hx : xs[j]? with
        | none => rw [hx] at hu; cases hu
        | some x =>
          rw [hx] at hu
          cases hu
          apply ints_cell h1
          rw [← h4, List.getElem?_take] at hx
          split at hx
          · rw [List.getElem?_drop] at hx; exact hx
          · cases hx
      have hr := run_append_grow (P := Try.prog) w 35 ty 3 i0 (.int .i64 0) Try.underlying35 hi hz0 ⟨b, off, none⟩ xs.length cap (ints xs) (by rw [hz1, ints_length, Nat.mul_one]) holds ad ys.length c (ints ys) hyl hnews (by omega) (by omega)
        (growslice_fits (by omega) (by rw [hz2]; omega))
      refine ⟨_, _, hr, ?_⟩
      have := app_new (w := w) (v := .slice (some ⟨b, off, none⟩) xs.length cap) (xs := xs) (ys := ys) (n := grownCap w (xs.length + ys.length) cap 3) (.inr ⟨b, off, cap, cs, rfl, h1, h2, h3, h5, h4⟩) (by simpa using grownCap_ge w (xs.length + ys.length) cap 3) (grownCap_le_maxLen _ _ _ _ (by unfold maxLen; omega)) (fun a m cap' e => by cases e; exact hroom)
      simpa using this

/-! ### What writes do to how a heap lies in memory -/

def Lay.set (L : Lay) (i : Nat) (v : Value) : Lay := ⟨fun j => if j = i then v else L.v j⟩
theorem Lay.set_same (L : Lay) (i : Nat) (v : Value) : (L.set i v).v i = v := by simp [Lay.set]
theorem Lay.set_other (L : Lay) {i j : Nat} (v : Value) (h : j ≠ i) : (L.set i v).v j = L.v j := by simp [Lay.set, h]

theorem sl_setSl_same (s : HS) {i : Nat} (l : List Int) (hi : i < 5) : (s.setSl i l).sl i = l := by
  unfold HS.setSl HS.sl
  obtain rfl | rfl | rfl | rfl | rfl : i = 0 ∨ i = 1 ∨ i = 2 ∨ i = 3 ∨ i = 4 := by omega
  all_goals simp [ar_setAr_same]

theorem sl_setSl_other (s : HS) {i j : Nat} (l : List Int) (hi : i < 5) (hj : j < 5) (h : j ≠ i) : (s.setSl i l).sl j = s.sl j := by
  unfold HS.setSl HS.sl
  obtain rfl | rfl | rfl | rfl | rfl : i = 0 ∨ i = 1 ∨ i = 2 ∨ i = 3 ∨ i = 4 := by omega
  all_goals obtain rfl | rfl | rfl | rfl | rfl : j = 0 ∨ j = 1 ∨ j = 2 ∨ j = 3 ∨ j = 4 := by omega
  all_goals first | (exact absurd rfl h) | rfl

theorem head_setSl (L : Lay) (s : HS) {i : Nat} (l : List Int) (v : Value) (hi : i < 5) : headCells (L.set i v) (s.setSl i l) = (headCells L s).setIfInBounds (cellOf i) v := by
  obtain rfl | rfl | rfl | rfl | rfl : i = 0 ∨ i = 1 ∨ i = 2 ∨ i = 3 ∨ i = 4 := by omega
  all_goals rfl

theorem head_setSl' (L : Lay) (s : HS) {i : Nat} (l : List Int) (hi : i < 5) : headCells L (s.setSl i l) = headCells L s := by
  obtain rfl | rfl | rfl | rfl | rfl : i = 0 ∨ i = 1 ∨ i = 2 ∨ i = 3 ∨ i = 4 := by omega
  all_goals rfl

theorem setCell_block (w : World) (b k : Nat) (v : Value) {cs : Array Value} {t : TypeId} (h : w.heap[b]? = some (.cells cs t (0, 0))) : (w.setCell ⟨b, k, none⟩ v).heap[b]? = some (.cells (cs.setIfInBounds k v) t (0, 0)) := by
  unfold World.setCell
  simp only [Array.getElem?_modify, h, if_true, Option.map_some]
  rfl

theorem setCell_other (w : World) (b k : Nat) (v : Value) {j : Nat} (h : j ≠ b) : (w.setCell ⟨b, k, none⟩ v).heap[j]? = w.heap[j]? := by
  unfold World.setCell
  simp only [Array.getElem?_modify]
  rw [if_neg (Ne.symm h)]

theorem fr_setCell (w : World) (b k : Nat) (v : Value) : Fr (fun j => j = b) w (w.setCell ⟨b, k, none⟩ v) :=
  ⟨rfl, rfl, rfl, by simp [World.setCell], fun j _ hj => setCell_other w b k v hj⟩

theorem Fr.mono {B B' : Nat → Prop} {w w' : World} (h : Fr B w w') (hb : ∀ k, B k → B' k) : Fr B' w w' := ⟨h.os, h.tape, h.output, h.size, fun k hk hn => h.block k hk (fun hB => hn (hb k hB))⟩

/-- Steps one behind the other: the second may turn, of what was there, what the first one may. -/
theorem Fr.trans {B B' : Nat → Prop} {w w1 w2 : World} (h : Fr B w w1) (k : Fr B' w1 w2) (hb : ∀ j, B' j → B j ∨ w.heap.size ≤ j) : Fr B w w2 :=
  ⟨k.os.trans h.os, k.tape.trans h.tape, k.output.trans h.output, Nat.le_trans h.size k.size, fun j hj hn => (k.block j (Nat.lt_of_lt_of_le hj h.size) (fun hB => (hb j hB).elim hn (fun hle => by omega))).trans (h.block j hj hn)⟩

theorem HRep.of_fr {B : Nat → Prop} {w w' : World} {hb : Nat} {L : Lay} {s : HS} (h : HRep w hb L s) (hf : Fr B w w') (hB : ∀ k, L.foot hb k → ¬ B k) : HRep w' hb L s := by
  have hblk : ∀ k, L.foot hb k → k < w.heap.size → w'.heap[k]? = w.heap[k]? := fun k hk hl => hf.block k hl (hB k hk)
  refine ⟨?_, ?_, h.off, h.apart⟩
  · rw [hblk hb (.inl rfl) (Array.getElem?_eq_some_iff.1 h.blk).1]; exact h.blk
  · intro i hi
    exact (h.sl i hi).of_block fun k hk => hblk k (.inr ⟨i, hi, hk⟩) ((h.sl i hi).lt hk)

theorem HRep.lt {w : World} {hb : Nat} {L : Lay} {s : HS} (h : HRep w hb L s) {k : Nat} (hk : L.foot hb k) : k < w.heap.size := by
  rcases hk with rfl | ⟨i, hi, hk⟩
  · exact (Array.getElem?_eq_some_iff.1 h.blk).1
  · exact (h.sl i hi).lt hk

/-- A scalar of the head is written. -/
theorem HRep.scalar {w : World} {hb : Nat} {L : Lay} {s s' : HS} (h : HRep w hb L s) (k : Nat) (v : Value) (hh : headCells L s' = (headCells L s).setIfInBounds k v) (hs : ∀ i, i < 5 → s'.sl i = s.sl i) : HRep (w.setCell ⟨hb, k, none⟩ v) hb L s' := by
  refine ⟨by rw [hh]; exact setCell_block w hb k v h.blk, fun i hi => ?_, h.off, h.apart⟩
  rw [hs i hi]
  exact (h.sl i hi).of_block fun j hj => setCell_other w hb k v (fun e => h.off i hi (by rw [hj, e]))

/-- A list of the heap has been turned by a step within its block, or to a new one; the head has its slice. -/
theorem HRep.list {w w1 : World} {hb : Nat} {L : Lay} {s : HS} (h : HRep w hb L s) {i : Nat} (hi : i < 5) {v' : Value} {l : List Int} (hn : IsSl w1 v' l) (hf : Fr (fun k => (L.v i).ownBlock = some k) w w1)
    (hv : v'.ownBlock = (L.v i).ownBlock ∨ v'.ownBlock = none ∨ ∃ b, v'.ownBlock = some b ∧ w.heap.size ≤ b) : HRep (w1.setCell ⟨hb, cellOf i, none⟩ v') hb (L.set i v') (s.setSl i l) := by
  have hbl : hb < w.heap.size := (Array.getElem?_eq_some_iff.1 h.blk).1
  have hb1 : w1.heap[hb]? = some (.cells (headCells L s) 60 (0, 0)) := by rw [hf.block hb hbl (h.off i hi)]; exact h.blk
  have hv' : v'.ownBlock ≠ some hb := by
    rcases hv with e | e | ⟨b, e, hle⟩
    · rw [e]; exact h.off i hi
    · rw [e]; exact fun h => by cases h
    · rw [e]; intro e'; cases e'; omega
  have hoth : ∀ j, j < 5 → j ≠ i → ∀ k, (L.v j).ownBlock = some k → v'.ownBlock ≠ some k ∧ (L.v i).ownBlock ≠ some k := by
    intro j hj hji k hk
    have h2 : (L.v i).ownBlock ≠ some k := by
      rcases h.apart j i hj hi hji with e | e
      · rw [e] at hk; cases hk
      · rw [hk] at e; exact Ne.symm e
    refine ⟨?_, h2⟩
    rcases hv with e | e | ⟨b, e, hle⟩
    · rw [e]; exact h2
    · rw [e]; exact fun h => by cases h
    · rw [e]; intro e'; cases e'; have := (h.sl j hj).lt hk; omega
  refine ⟨by rw [head_setSl L s l v' hi]; exact setCell_block w1 hb _ v' hb1, ?_, ?_, ?_⟩
  · intro j hj
    by_cases e : j = i
    · subst e
      rw [Lay.set_same, sl_setSl_same s l hj]
      exact hn.of_block fun k hk => setCell_other w1 hb _ v' (fun e => hv' (by rw [hk, e]))
    · rw [Lay.set_other _ _ e, sl_setSl_other s l hi hj e]
      exact (h.sl j hj).of_block fun k hk => (setCell_other w1 hb _ v' (fun e' => h.off j hj (by rw [hk, e']))).trans (hf.block k ((h.sl j hj).lt hk) (hoth j hj e k hk).2)
  · intro j hj
    by_cases e : j = i
    · subst e; rw [Lay.set_same]; exact hv'
    · rw [Lay.set_other _ _ e]; exact h.off j hj
  · intro j k hj hk hjk
    by_cases ej : j = i
    · subst ej
      rw [Lay.set_same, Lay.set_other _ _ (Ne.symm hjk)]
      cases ev : v'.ownBlock with
      | none => exact .inl rfl
      | some b => right; intro e'; exact (hoth k hk (Ne.symm hjk) b e'.symm).1 ev
    · by_cases ek : k = i
      · subst ek
        rw [Lay.set_same, Lay.set_other _ _ ej]
        cases ev : (L.v j).ownBlock with
        | none => exact .inl rfl
        | some b => right; intro e'; exact (hoth j hj ej b ev).1 e'.symm
      · rw [Lay.set_other _ _ ej, Lay.set_other _ _ ek]; exact h.apart j k hj hk hjk

/-- A word of a list is written where it lies. -/
theorem HRep.put {w : World} {hb : Nat} {L : Lay} {s : HS} (h : HRep w hb L s) {i : Nat} (hi : i < 5) {b off n cap : Nat} (hv : L.v i = .slice (some ⟨b, off, none⟩) n cap) {p : Nat} (hp : p < (s.sl i).length) (x : Int) :
    HRep (w.setCell ⟨b, off + p, none⟩ (.int .i64 x)) hb L (s.setSl i ((s.sl i).set p x)) := by
  have hob : (L.v i).ownBlock = some b := by rw [hv]; rfl
  have hbne : b ≠ hb := fun e => h.off i hi (by rw [hob, e])
  refine ⟨?_, ?_, h.off, h.apart⟩
  · rw [setCell_other w b _ _ (Ne.symm hbne), head_setSl' L s _ hi]; exact h.blk
  · intro j hj
    by_cases e : j = i
    · subst e
      rw [sl_setSl_same s _ hj]
      rcases h.sl j hj with ⟨e1, e2⟩ | ⟨b', off', cap', cs, e1, h1, h2, h3, h5, h4⟩
      · rw [e2] at hp; simp at hp
      · rw [hv] at e1
        cases e1
        refine .inr ⟨b, off, cap, cs.set (off + p) x, ?_, ?_, by simpa using h2, by simpa using h3, by simpa using h5, ?_⟩
        · rw [hv]; simp
        · rw [setCell_block w b _ _ h1]
          congr 2
          unfold ints
          rw [List.map_set, ← List.setIfInBounds_toArray]
        · rw [List.length_set, List.drop_set, if_neg (by omega), show off + p - off = p by omega, List.take_set, h4]
    · rw [sl_setSl_other s _ hi hj e]
      exact (h.sl j hj).of_block fun k hk => setCell_other w b _ _ (fun e' => by
        rcases h.apart j i hj hi e with e2 | e2
        · rw [e2] at hk; cases hk
        · rw [hk, hob, e'] at e2; exact e2 rfl)
end Go.Proofs.Ythjokcjdphempaa
