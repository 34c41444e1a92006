/- The closure of Dump over a heap in memory. -/
import Derived.Test.YthjokcjdphempaaDump
import Derived.Test.YthjokcjdphempaaNum
namespace Go.Proofs.Ythjokcjdphempaa
open Go.RowKit Hp Go.Shelf

/-- The cells of an object in a dump. -/
structure DObjAt (A : AHeap) (base : Nat) (W : World) (ov : Value) (xs : List Value) (i m : Nat) : Prop where
  ex : ∃ rv wv, xs[3 * i]? = some (.int .i64 (A.obj m).tag) ∧ xs[3 * i + 1]? = some rv ∧ xs[3 * i + 2]? = some wv ∧ IsSl W rv ((A.obj m).refs.map (numOf A)) ∧ IsSl W wv (A.obj m).raws ∧
    (∀ k, rv.ownBlock = some k → base ≤ k ∧ ov.ownBlock ≠ some k) ∧ (∀ k, wv.ownBlock = some k → base ≤ k ∧ ov.ownBlock ≠ some k)

/-- A dump's slots and its first j objects stand at dx. -/
structure DumpIn (A : AHeap) (dx base : Nat) (W : World) (j : Nat) (sv ov : Value) (xs : List Value) : Prop where
  at_dx : W.heap[dx]? = some (.cells #[sv, ov] 38 (0, 0))
  slots : IsSl W sv (A.slots.map (numOf A))
  row : W.ownsRow base 67 3 ov j xs
  sown : ∀ k, sv.ownBlock = some k → base ≤ k ∧ ov.ownBlock ≠ some k
  objs : ∀ i m, i < j → A.search[i]? = some m → DObjAt A base W ov xs i m

theorem DumpIn.of_fr {A : AHeap} {dx base j : Nat} {W W' : World} {sv ov : Value} {xs : List Value} (h : DumpIn A dx base W j sv ov xs) (hf : Fr (fun _ => False) W W') : DumpIn A dx base W' j sv ov xs where
  at_dx := by rw [hf.block dx (Array.getElem?_eq_some_iff.1 h.at_dx).1 id]; exact h.at_dx
  slots := h.slots.of_block fun k hk => hf.block k (h.slots.lt hk) id
  row := h.row.kept (row := none) ⟨hf.os, hf.tape, hf.output, hf.size, fun k hk _ => hf.block k hk id⟩ (by cases ov.ownBlock <;> simp)
  sown := h.sown
  objs := fun i m hi hm => by
    obtain ⟨rv, wv, h1, h2, h3, h4, h5, h6⟩ := (h.objs i m hi hm).ex
    exact ⟨rv, wv, h1, h2, h3, h4.of_block fun k hk => hf.block k (h4.lt hk) id, h5.of_block fun k hk => hf.block k (h5.lt hk) id, h6⟩

/-- What is known behind the walk of a dump. -/
structure DBase (hb hx : Nat) (A : AHeap) (φ : Nat → Int) (L : Lay) (s : HS) (w w1 : World) (lv : Value) (L' : Lay) (s' : HS) (G' : Areas) : Prop where
  walked : Walked hb A L s (dumpW w) w1 L' s' G' φ
  exact : Rep (fun _ => True) s' G' φ A
  small : Small s'
  lsl : IsSl w1 lv (A.search.map φ)
  lown : ∀ k, lv.ownBlock = some k → w.heap.size + 2 ≤ k
  foot : ∀ k, L'.foot hb k → L.foot hb k

theorem SameBase.eq {v v' : Value} {w w' : World} {xs xs' : List Int} (h : SameBase v v') (h1 : IsSl w v xs) (h2 : IsSl w' v' xs') (hl : xs.length = xs'.length) : v' = v := by
  obtain ⟨a, n, n', c, rfl, rfl⟩ := h
  obtain ⟨a1, c1, e1⟩ := h1.shape
  obtain ⟨a2, c2, e2⟩ := h2.shape
  cases e1; cases e2
  rw [hl]

/-- One number more is appended to a list of a dump. -/
theorem push_any {hb hx nb mb n : Nat} {x : Int} {W : World} {A : AHeap} {s : HS} {G : Areas} {φ : Nat → Int} {L : Lay} {D : Ptr → Prop} {v : Value} {xs : List Int} {cb ck : Nat} {J : World → Prop} (hr : HRep W hb L s) (hi : Rep D s G φ A) (hsm : Small s)
    (c1 : W.cell? ⟨nb, 0, none⟩ = some (.map (some mb))) (c2 : W.cell? ⟨hx, 0, none⟩ = some (.pointer (some ⟨hb, 0, none⟩))) (hm : IsMap W mb (A.search.map φ) (fun i => .int .i64 ((i : Int) + 1)))
    (hrf : RefOk G φ s.now x n) (hn : ∀ m, n = m + 1 → Hp.Reach A m) (hc : W.cell? ⟨cb, ck, none⟩ = some v) (hz : W.frozen? ⟨cb, ck, none⟩ = false) (hv : IsSl W v xs) (hne : v.ownBlock ≠ some cb) (hlen : xs.length ≤ 900000000000)
    (hJ : ∀ W1 v' W2 W3, Eqw (W.alloc (.cells #[.int .i64 (numOf A n)] 3)) W1 → Appended W1 W2 v v' xs [numOf A n] → Eqw (W2.setCell ⟨cb, ck, none⟩ v') W3 → J W3) :
    Push W ⟨cb, ck, none⟩ x (numOf A n) nb hx J := by
  refine ⟨v, hc, fun W' hW => ?_, fun W1 hW1 => ?_⟩
  · exact number_any (hr.of_heap hW.1) hi hsm ((cell_of_heap (by rw [hW.1])).trans c1) ((cell_of_heap (by rw [hW.1])).trans c2) (hm.of_block (by rw [hW.1])) hrf hn
  · have hv1 : IsSl W1 v xs := hv.of_block fun k hk => by rw [hW1.1]; exact Below.heap_alloc W _ k (hv.lt hk)
    have hcl := World.block_lt_of_cell? _ _ hc
    have hlt1 : cb < W1.heap.size := by rw [hW1.1]; simp; exact Nat.lt_succ_of_lt hcl
    have hb1 : W1.heap[cb]? = W.heap[cb]? := by rw [hW1.1]; exact Below.heap_alloc W _ _ hcl
    have hnew : ∀ (j : Nat) (y : Int), [numOf A n][j]? = some y → W1.cell? ((⟨W.heap.size, 0, none⟩ : Addr).add j) = some (.int .i64 y) := by
      intro j y hj
      rw [cell_of_heap (w := W.alloc (.cells #[.int .i64 (numOf A n)] 3)) (by rw [hW1.1])]
      exact one_cell W _ j y hj
    obtain ⟨v', W2, hrun, ha⟩ := run_app hv1 (ad := ⟨W.heap.size, 0, none⟩) (c := 1) (ys := [numOf A n]) 35 hnew (by show xs.length + 1 ≤ _; omega)
    obtain ⟨va, vc, e⟩ := ha.new.shape
    have hbl : W2.heap[cb]? = W.heap[cb]? := (ha.fr.block cb hlt1 hne).trans hb1
    rw [e] at hrun
    refine ⟨va, _, vc, W2, hrun, (cell_of_heap hbl).trans hc, (frozen_of_heap hbl).trans hz, fun W3 hW3 => hJ W1 v' W2 W3 hW1 ha ?_⟩
    rw [e]; exact hW3
def mapF : Nat → Value := fun i => .int .i64 ((i : Int) + 1)

def DJ1 (hb hx : Nat) (A : AHeap) (φ : Nat → Int) (L : Lay) (s : HS) (w : World) (lv : Value) (i : Nat) (W : World) : Prop :=
  ∃ w1 L' s' G', DBase hb hx A φ L s w w1 lv L' s' G' ∧ Fr (fun k => k = w.heap.size) w1 W ∧ IsMap W w.heap.size ((A.search.map φ).take i) mapF

/-- The worlds from the slots' numbers on: w2, in which they begin. -/
structure DTwo (hb hx dx : Nat) (A : AHeap) (φ : Nat → Int) (L : Lay) (s : HS) (w : World) (lv : Value) (w1 w2 : World) (L' : Lay) (s' : HS) (G' : Areas) (W : World) : Prop where
  base : DBase hb hx A φ L s w w1 lv L' s' G'
  fr1 : Fr (fun k => k = w.heap.size) w1 w2
  map : IsMap w2 w.heap.size (A.search.map φ) mapF
  fr2 : Fr (fun k => k = dx ∨ w2.heap.size ≤ k) w2 W

def DJ2 (hb hx dx : Nat) (A : AHeap) (φ : Nat → Int) (L : Lay) (s : HS) (w : World) (lv : Value) (i : Nat) (W : World) : Prop :=
  ∃ w1 w2 L' s' G' sv, DTwo hb hx dx A φ L s w lv w1 w2 L' s' G' W ∧ W.heap[dx]? = some (.cells #[sv, .slice none 0 0] 38 (0, 0)) ∧ IsSl W sv ((A.slots.map (numOf A)).take i) ∧ ∀ k, sv.ownBlock = some k → w2.heap.size ≤ k

def DJ3 (hb hx dx : Nat) (A : AHeap) (φ : Nat → Int) (L : Lay) (s : HS) (w : World) (lv : Value) (j : Nat) (W : World) : Prop :=
  ∃ w1 w2 L' s' G' sv ov xs, DTwo hb hx dx A φ L s w lv w1 w2 L' s' G' W ∧ DumpIn A dx w2.heap.size W j sv ov xs

def DJ4 (hb hx dx : Nat) (A : AHeap) (φ : Nat → Int) (L : Lay) (s : HS) (w : World) (lv : Value) (j xb m : Nat) (W : World) : Prop :=
  ∃ w1 w2 w3 w4 L' s' G' sv ov xs rv wv o, DTwo hb hx dx A φ L s w lv w1 w2 L' s' G' w3 ∧ DumpIn A dx w2.heap.size w3 j sv ov xs ∧ A.search[j]? = some o ∧ Fr (fun _ => False) w3 w4 ∧ w3.heap.size ≤ xb ∧ xb < w4.heap.size ∧
    Fr (fun k => k = xb ∨ w4.heap.size ≤ k) w4 W ∧ W.heap[xb]? = some (.cells #[.int .i64 (A.obj o).tag, rv, wv] 67 (0, 0)) ∧ IsSl W rv (((A.obj o).refs.map (numOf A)).take m) ∧ (∀ k, rv.ownBlock = some k → w4.heap.size ≤ k) ∧
    IsSl w4 wv (A.obj o).raws ∧ (∀ k, wv.ownBlock = some k → w3.heap.size ≤ k ∧ k ≠ xb)

section
variable {hb hx dx : Nat} {A : AHeap} {φ : Nat → Int} {L : Lay} {s : HS} {w : World} {lv : Value} {w1 w2 : World} {L' : Lay} {s' : HS} {G' : Areas} {W : World}

/-- The ground of a dump: what stands where it begins. -/
structure DGround (hb hx dx : Nat) (L : Lay) (s : HS) (w : World) : Prop where
  rep : HRep w hb L s
  xh : w.heap[hx]? = some (.cells #[.pointer (some ⟨hb, 0, none⟩)] 23 (0, 0))
  xd : w.heap[dx]? = some (.cells #[.slice none 0 0, .slice none 0 0] 38 (0, 0))
  nhx : ¬ L.foot hb hx
  ndx : ¬ L.foot hb dx
  ne : hx ≠ dx

/-- A block that a dump does not touch. -/
theorem DTwo.old (h : DTwo hb hx dx A φ L s w lv w1 w2 L' s' G' W) {k : Nat} (h1 : k < w1.heap.size) (h2 : k ≠ w.heap.size) (h3 : k ≠ dx) : W.heap[k]? = w1.heap[k]? := by
  have hs := h.fr1.size
  rw [h.fr2.block k (by omega) (by rintro (e | e) <;> omega)]
  exact h.fr1.block k h1 h2

theorem DTwo.rep (h : DTwo hb hx dx A φ L s w lv w1 w2 L' s' G' W) (g : DGround hb hx dx L s w) : HRep W hb L' s' := by
  have r1 := h.base.walked.rep
  have hf : ∀ k, L'.foot hb k → k < w.heap.size ∧ k ≠ dx := fun k hk => ⟨g.rep.lt (h.base.foot k hk), fun e => g.ndx (e ▸ h.base.foot k hk)⟩
  exact (r1.of_fr h.fr1 fun k hk e => by have := (hf k hk).1; omega).of_fr h.fr2 fun k hk e => by
    have hs := h.fr1.size
    have h1 := r1.lt hk
    rcases e with e | e
    · exact (hf k hk).2 e
    · omega

theorem DTwo.w1size (h : DTwo hb hx dx A φ L s w lv w1 w2 L' s' G' W) : w.heap.size + 2 ≤ w1.heap.size := by
  have := h.base.walked.fr.size
  simpa [dumpW] using this

theorem DTwo.cells (h : DTwo hb hx dx A φ L s w lv w1 w2 L' s' G' W) (g : DGround hb hx dx L s w) :
    W.cell? ⟨hx, 0, none⟩ = some (.pointer (some ⟨hb, 0, none⟩)) ∧ W.cell? ⟨w.heap.size + 1, 0, none⟩ = some (.map (some w.heap.size)) ∧ IsMap W w.heap.size (A.search.map φ) mapF ∧ IsSl W lv (A.search.map φ) := by
  have hsz := h.w1size
  have hfr := h.base.walked.fr
  have lhx := (Array.getElem?_eq_some_iff.1 g.xh).1
  have ldx := (Array.getElem?_eq_some_iff.1 g.xd).1
  have dW : ∀ k, k < w.heap.size → (dumpW w).heap[k]? = w.heap[k]? := fun k hk => by
    unfold dumpW
    rw [Below.heap_alloc _ _ _ (by simp; omega), Below.heap_alloc _ _ _ hk]
  have e1 : W.heap[hx]? = some (.cells #[.pointer (some ⟨hb, 0, none⟩)] 23 (0, 0)) := by
    rw [h.old (by omega) (by omega) g.ne, hfr.block hx (by simp [dumpW]; omega) g.nhx, dW hx lhx]; exact g.xh
  have e2 : W.heap[w.heap.size + 1]? = some (.cells #[.map (some w.heap.size)] 76 (0, 0)) := by
    rw [h.old (by omega) (by omega) (by omega), hfr.block _ (by simp [dumpW]) (fun hf => by have := g.rep.lt hf; omega)]
    have := World.alloc_heap_new (w.alloc (.map #[] 0)) (.cells #[.map (some w.heap.size)] 76)
    simpa [dumpW] using this
  have hs := h.fr1.size
  refine ⟨(cell_of_box e1).1, (cell_of_box e2).1, ?_, ?_⟩
  · exact h.map.of_block (h.fr2.block _ (by omega) (by rintro (e | e) <;> omega))
  · refine h.base.lsl.of_block fun k hk => h.old (h.base.lsl.lt hk) (by have := h.base.lown k hk; omega) (by have := h.base.lown k hk; omega)

end
end Go.Proofs.Ythjokcjdphempaa
