/- The closure of Dump over a heap in memory: the dump of the abstract heap. -/
import Derived.Test.YthjokcjdphempaaDumped
namespace Go.Proofs.Ythjokcjdphempaa
open Go.RowKit Hp Go.Shelf

theorem tagN_hdr {t r w : Nat} (h : t < 65536) : tagN (hdr t r w) = t := by unfold tagN Hp.hdr; omega

theorem IsMap.congr {w : World} {b : Nat} {xs : List Int} {f g : Nat → Value} (h : IsMap w b xs f) (hfg : ∀ i, i < xs.length → f i = g i) : IsMap w b xs g := by
  obtain ⟨es, c, h1, h2, h3⟩ := h
  refine ⟨es, c, h1, h2, fun i x hx => ?_⟩
  obtain ⟨e, e1, e2, e3⟩ := h3 i x hx
  exact ⟨e, e1, e2, e3.trans (hfg i (List.getElem?_eq_some_iff.1 hx).1)⟩

theorem take_snoc {α : Type} {l : List α} {i : Nat} {x : α} (h : l[i]? = some x) : l.take (i + 1) = l.take i ++ [x] := by
  rw [List.take_add_one, h]; rfl

theorem search_map_nodup {A : AHeap} {s : HS} {G : Areas} {φ : Nat → Int} {D : Ptr → Prop} (hi : Rep D s G φ A) : (A.search.map φ).Nodup :=
  nodup_map A.search (search_nodup A) fun a ha b hb e => hi.inj a b ((mem_search hi.wf).1 ha) ((mem_search hi.wf).1 hb) e

section
variable {hb hx dx : Nat} {A : AHeap} {φ : Nat → Int} {L : Lay} {s : HS} {w : World} {lv : Value}

theorem dj1_step {i : Nat} {W : World} (g : DGround hb hx dx L s w) (h : DJ1 hb hx A φ L s w lv i W) (hi : i < A.search.length) : ∃ lb lo lc x, lv = .slice (some ⟨lb, lo, none⟩) A.search.length lc ∧ A.search.length ≤ lc ∧ W.cell? ⟨lb, lo + i, none⟩ = some (.int .i64 x) ∧
    W.cell? ⟨w.heap.size + 1, 0, none⟩ = some (.map (some w.heap.size)) ∧
      ∃ W', (Instr.mapUpdate 76 (.map (some w.heap.size)) (.int .i64 x) (.int .i64 ((i : Int) + 1))).run Try.prog W = .ok () W' ∧ DJ1 hb hx A φ L s w lv (i + 1) W' := by
  obtain ⟨w1, L', s', G', hB, hf, hm⟩ := h
  have hsl : IsSl W lv (A.search.map φ) := hB.lsl.of_block fun k hk => hf.block k (hB.lsl.lt hk) (fun e => by have := hB.lown k hk; omega)
  obtain ⟨lb, lo, lc, e1, l1, l2, _⟩ := hsl.get (i := i) (by simpa using hi)
  have l3 := l2 i (by simpa using hi)
  rw [List.length_map] at e1 l1
  have hx : (A.search.map φ)[i]? = some ((A.search.map φ).getD i 0) := by rw [List.getD_eq_getElem?_getD, List.getElem?_eq_getElem (by simpa using hi)]; rfl
  obtain ⟨x, hxx⟩ : ∃ x, x = (A.search.map φ).getD i 0 := ⟨_, rfl⟩
  rw [← hxx] at hx l3
  have hnd := search_map_nodup hB.exact
  have hnot : x ∉ (A.search.map φ).take i := by
    intro h
    obtain ⟨k, hk, e⟩ := List.mem_take_iff_getElem.1 h
    have h1 : (A.search.map φ)[k]? = some x := by rw [List.getElem?_eq_getElem (by omega), e]
    have := (List.getElem?_inj (by omega) hnd).1 (h1.trans hx.symm)
    omega
  obtain ⟨o, hrun, hm'⟩ := run_insert_ints (e := 3) Try.underlying76 hm x (.int .i64 ((i : Int) + 1)) hnot
  have hlt : ∀ k, k < w1.heap.size → k < w1.heap.size := fun _ h => h
  have hsz := hB.walked.fr.size
  refine ⟨lb, lo, lc, x, e1, l1, l3, ?_, _, hrun, w1, L', s', G', hB, ?_, ?_⟩
  · have h0 : (dumpW w).heap[w.heap.size + 1]? = some (.cells #[.map (some w.heap.size)] 76 (0, 0)) := by
      have := World.alloc_heap_new (w.alloc (.map #[] 0)) (.cells #[.map (some w.heap.size)] 76)
      simpa [dumpW] using this
    have h1 := hB.walked.fr.block (w.heap.size + 1) (by simp [dumpW]) (fun hf => by have := g.rep.lt hf; omega)
    have h2 := hf.block (w.heap.size + 1) (by simp [dumpW] at hsz; omega) (by omega)
    exact (cell_of_box (h2.trans (h1.trans h0))).1
  · refine hf.trans (B' := fun k => k = w.heap.size) ⟨rfl, rfl, rfl, by simp [World.putObj], fun k _ hk => World.putObj_heap_other hk⟩ (fun j hj => .inl hj)
  · rw [take_snoc hx]
    refine hm'.congr fun k hk => ?_
    have hl : ((A.search.map φ).take i).length = i := by simp; omega
    simp only [mapF]
    by_cases e : k = i
    · subst e; rw [if_pos hl.symm]
    · rw [if_neg (by rw [hl]; exact e)]

theorem dj2_step {i : Nat} {W : World} (g : DGround hb hx dx L s w) (hn0 : A.slots.length ≤ 900000000000) (h : DJ2 hb hx dx A φ L s w lv i W) (hi : i < A.slots.length) : ∃ sb so sc x y, L.v 3 = .slice (some ⟨sb, so, none⟩) A.slots.length sc ∧ A.slots.length ≤ sc ∧
    W.cell? ⟨sb, so + i, none⟩ = some (.int .i64 x) ∧ Push W ⟨dx, 0, none⟩ x y (w.heap.size + 1) hx (DJ2 hb hx dx A φ L s w lv (i + 1)) := by
  obtain ⟨w1, w2, L', s', G', sv, hD, hdx, hsv, hown⟩ := h
  have hr := hD.rep g
  obtain ⟨c1, c2, hm, _⟩ := hD.cells g
  have hslen : s'.slots.length = A.slots.length := hD.base.exact.slen
  have hL3 : L'.v 3 = L.v 3 := (hD.base.walked.base 3 (by omega)).eq g.rep.slots hr.slots hD.base.walked.slen.symm
  obtain ⟨sb, so, sc, e1, l1, l2, _⟩ := hr.slots.get (i := i) (by omega)
  have l3 := l2 i (by omega)
  have hx0 : s'.slots[i]? = some (s'.slots.getD i 0) := by rw [List.getD_eq_getElem?_getD, List.getElem?_eq_getElem (by omega)]; rfl
  have hn : A.slots[i]? = some A.slots[i] := List.getElem?_eq_getElem hi
  rw [hslen] at e1 l1
  rw [hL3] at e1
  have hdlt := (Array.getElem?_eq_some_iff.1 hdx).1
  have hc0 : W.cell? ⟨dx, 0, none⟩ = some sv := by simp [World.cell?, hdx]
  have hz0 : W.frozen? ⟨dx, 0, none⟩ = false := by simp [World.frozen?, hdx]
  have ldx := (Array.getElem?_eq_some_iff.1 g.xd).1
  have hs1 := hD.w1size
  have hs2 := hD.fr1.size
  have hs3 := hD.fr2.size
  refine ⟨sb, so, sc, _, _, e1, l1, l3, push_any hr hD.base.exact hD.base.small c2 c1 hm (hD.base.exact.slot i _ _ hx0 hn).1 (fun m e => .slot (List.mem_of_getElem? (by rw [hn, e]))) hc0 hz0 hsv (fun e => by have := hown dx e; omega) (by simp; omega) ?_⟩
  intro W1 v' W2 W3 hW1 ha hW3
  have hF1 : Fr (fun _ => False) W W1 := (fr_alloc1 W _).trans (hW1.fr (fun _ => False)) fun _ h => h.elim
  have hF2 : Fr (fun k => sv.ownBlock = some k) W W2 := (hF1.mono (fun _ h => h.elim)).trans ha.fr (fun _ h => .inl h)
  have hsz1 := hF1.size
  have hown' : ∀ k, v'.ownBlock = some k → w2.heap.size ≤ k ∧ k ≠ dx := by
    intro k hk
    rcases ha.blk with h | ⟨b, h, hle⟩
    · rw [h] at hk; have := hown k hk; exact ⟨this, by omega⟩
    · rw [h] at hk; cases hk; exact ⟨by omega, by omega⟩
  have hdx2 : W2.heap[dx]? = some (.cells #[sv, .slice none 0 0] 38 (0, 0)) := by rw [hF2.block dx hdlt (fun e => by have := hown dx e; omega)]; exact hdx
  refine ⟨w1, w2, L', s', G', v', ⟨hD.base, hD.fr1, hD.map, ?_⟩, ?_, ?_, fun k hk => (hown' k hk).1⟩
  · have F3 := hD.fr2.trans hF2 (fun j hj => .inl (.inr (hown j hj)))
    have F4 := F3.trans (fr_setCell W2 dx 0 v') (fun j hj => .inl (.inl hj))
    exact F4.trans (hW3.fr (fun _ => False)) fun _ h => h.elim
  · rw [hW3.1, setCell_block W2 dx 0 v' hdx2]; rfl
  · have e2 : (A.slots.map (numOf A)).take (i + 1) = (A.slots.map (numOf A)).take i ++ [numOf A A.slots[i]] := take_snoc (by rw [List.getElem?_map, hn]; rfl)
    rw [e2]
    exact ha.new.of_block fun k hk => by rw [hW3.1]; exact setCell_other W2 dx 0 v' (hown' k hk).2


/-- The words of an object, as cells. -/
theorem obj_words {D : Ptr → Prop} {G : Areas} {W : World} (hr : HRep W hb L s) (hi : Rep D s G φ A) (hsm : Small s) {m : Nat} (hm : Hp.Reach A m) :
    ∃ (b p : Nat) (fs : List Int), (∀ W' : World, W'.heap = W.heap → Calls Try.prog 45 #[.pointer (some ⟨hb, 0, none⟩), .int .i64 (φ m)] W' fun e w' => e = .returned (.slice (some ⟨b, p, none⟩) (A.obj m).size (A.obj m).size) ∧ W' = w') ∧ fs.length = (A.obj m).refs.length ∧
      (∀ (j : Nat) (x : Int), (hdr (A.obj m).tag (A.obj m).refs.length (A.obj m).raws.length :: (fs ++ (A.obj m).raws))[j]? = some x → W.cell? ⟨b, p + j, none⟩ = some (.int .i64 x)) ∧
      (∀ (k : Nat) (x : Int) (n : Nat), fs[k]? = some x → (A.obj m).refs[k]? = some n → RefOk G φ s.now x n) ∧ b < W.heap.size ∧ ∃ off n cap, L.v (aOf (φ m)) = .slice (some ⟨b, off, none⟩) n cap ∧ p = off + pOf (φ m) ∧ aOf (φ m) < 3 := by
  obtain ⟨b, off, hcall, n, cap, e⟩ := words_obj hi hsm hr hm
  obtain ⟨fs, l1, l2, l3⟩ := hi.obj m hm
  refine ⟨b, off + pOf (φ m), fs, hcall, l2, ?_, fun k x n h1 h2 => (l3 k x n h1 h2).1, hr.lt (ownBlock_foot (i := aOf (φ m)) (by have := l1.2.1; omega) (by rw [e]; rfl)), off, n, cap, e, rfl, l1.2.1⟩
  intro j x hj
  have hjl := (List.getElem?_eq_some_iff.1 hj).1
  have hg := l1.2.2.get hjl
  rw [← hi.flat _ l1.2.1, hj] at hg
  have hpl := (List.getElem?_eq_some_iff.1 hg).1
  obtain ⟨b', off', cap', e', q1, q2, _⟩ := (hr.ar (aOf (φ m)) l1.2.1).get hpl
  rw [e] at e'
  cases e'
  have := q2 _ hpl
  rw [List.getD_eq_getElem?_getD, hg] at this
  rw [Nat.add_assoc]
  exact this

theorem DTwo.of_fr {w1 w2 W W' : World} {L' : Lay} {s' : HS} {G' : Areas} (h : DTwo hb hx dx A φ L s w lv w1 w2 L' s' G' W) (hf : Fr (fun k => k = dx ∨ w2.heap.size ≤ k) W W') : DTwo hb hx dx A φ L s w lv w1 w2 L' s' G' W' :=
  ⟨h.base, h.fr1, h.map, h.fr2.trans hf (fun _ h => .inl h)⟩

/-- The step from the start of an object. -/
theorem dj4_start {j o : Nat} {W W3 : World} {w1 w2 : World} {L' : Lay} {s' : HS} {G' : Areas} {sv ov : Value} {xs : List Value} (hD : DTwo hb hx dx A φ L s w lv w1 w2 L' s' G' W) (hI : DumpIn A dx w2.heap.size W j sv ov xs) (ho : A.search[j]? = some o)
    {xb : Nat} {wv : Value} (hf : Fr (fun _ => False) W W3) (hxb1 : W.heap.size ≤ xb) (hx3 : W3.heap[xb]? = some (.cells #[.int .i64 (A.obj o).tag, .slice none 0 0, wv] 67 (0, 0))) (hwv : IsSl W3 wv (A.obj o).raws)
    (hown : ∀ k, wv.ownBlock = some k → W.heap.size ≤ k ∧ k ≠ xb) : DJ4 hb hx dx A φ L s w lv j xb 0 W3 :=
  ⟨w1, w2, W, W3, L', s', G', sv, ov, xs, .slice none 0 0, wv, o, hD, hI, ho, hf, hxb1, (Array.getElem?_eq_some_iff.1 hx3).1, Fr.refl _ _, hx3, by rw [List.take_zero]; exact .inl ⟨rfl, rfl⟩, fun k hk => (by cases hk), hwv, hown⟩

theorem dj4_push {j xb m o : Nat} {W : World} (g : DGround hb hx dx L s w) (ho : A.search[j]? = some o) (h : DJ4 hb hx dx A φ L s w lv j xb m W) {n : Nat} (hn : (A.obj o).refs[m]? = some n) (hfits : (A.obj o).refs.length ≤ 4000)
    (hre : Hp.Reach A o) {ob op off ln cap : Nat} (hob : L.v (aOf (φ o)) = .slice (some ⟨ob, off, none⟩) ln cap) (hop : op = off + pOf (φ o)) (ha3 : aOf (φ o) < 3) :
    ∃ x, W.cell? ⟨ob, op + (1 + m), none⟩ = some (.int .i64 x) ∧ Push W ⟨xb, 1, none⟩ x (numOf A n) (w.heap.size + 1) hx (DJ4 hb hx dx A φ L s w lv j xb (m + 1)) := by
  obtain ⟨w1, w2, w3, w4, L', s', G', sv, ov, xs, rv, wv, o', hD, hI, ho', hf, hxb1, hxb2, hf2, hxc, hrv, hro, hwv, hwo⟩ := h
  have : o' = o := by rw [ho] at ho'; cases ho'; rfl
  subst this
  have hsz2 := hD.fr2.size
  have hsz3 := hf.size
  have hF : Fr (fun _ => False) w3 W := hf.trans hf2 (fun k hk => .inr (by omega))
  have hDW : DTwo hb hx dx A φ L s w lv w1 w2 L' s' G' W := hD.of_fr (hF.mono fun _ h => h.elim)
  have hr := hDW.rep g
  obtain ⟨c1, c2, hm, _⟩ := hDW.cells g
  have hc0 : W.cell? ⟨xb, 1, none⟩ = some rv := by simp [World.cell?, hxc]
  have hz0 : W.frozen? ⟨xb, 1, none⟩ = false := by simp [World.frozen?, hxc]
  have hxl := (Array.getElem?_eq_some_iff.1 hxc).1
  obtain ⟨ob', op', fs', _, hfl', hcell', hrf', _, off2, on2, oc2, oe2, op2, _⟩ := obj_words hr hD.base.exact hD.base.small hre
  obtain ⟨a0, m1, m2, c0, q1, q2⟩ := hD.base.walked.base (aOf (φ o')) (by omega)
  rw [hob] at q1
  cases q1
  rw [q2] at oe2
  cases oe2
  have hml := (List.getElem?_eq_some_iff.1 hn).1
  have hkf : fs'[m]? = some fs'[m] := List.getElem?_eq_getElem (by omega)
  have hc := hcell' (m + 1) fs'[m] (by rw [List.getElem?_cons_succ, List.getElem?_append_left (by omega)]; exact hkf)
  refine ⟨fs'[m], by rw [hop, ← op2, show op' + (1 + m) = op' + (m + 1) by omega]; exact hc, ?_⟩
  refine push_any hr hD.base.exact hD.base.small c2 c1 hm (hrf' m _ n hkf hn) (fun m' e => .ref hre (List.mem_of_getElem? (by rw [hn, e]))) hc0 hz0 hrv (fun e => by have := hro xb e; omega) (by simp; omega) ?_
  intro W1 v' W2 W3 hW1 ha hW3
  have hF1 : Fr (fun _ => False) W W1 := (fr_alloc1 W _).trans (hW1.fr (fun _ => False)) fun _ h => h.elim
  have hF2 : Fr (fun k => rv.ownBlock = some k) W W2 := (hF1.mono (fun _ h => h.elim)).trans ha.fr (fun _ h => .inl h)
  have hsz1 := hF1.size
  have hsz4 := hf2.size
  have hown' : ∀ k, v'.ownBlock = some k → w4.heap.size ≤ k ∧ k ≠ xb := by
    intro k hk
    rcases ha.blk with h | ⟨b, h, hle⟩
    · rw [h] at hk; have := hro k hk; exact ⟨this, by omega⟩
    · rw [h] at hk; cases hk; exact ⟨by omega, by omega⟩
  have hx2 : W2.heap[xb]? = some (.cells #[.int .i64 (A.obj o').tag, rv, wv] 67 (0, 0)) := by rw [hF2.block xb hxl (fun e => by have := hro xb e; omega)]; exact hxc
  refine ⟨w1, w2, w3, w4, L', s', G', sv, ov, xs, v', wv, o', hD, hI, ho, hf, hxb1, hxb2, ?_, ?_, ?_, fun k hk => (hown' k hk).1, hwv, hwo⟩
  · have F3 := hf2.trans hF2 (fun j hj => .inl (.inr (hro j hj)))
    have F4 := F3.trans (fr_setCell W2 xb 1 v') (fun j hj => .inl (.inl hj))
    exact F4.trans (hW3.fr (fun _ => False)) fun _ h => h.elim
  · rw [hW3.1, setCell_block W2 xb 1 v' hx2]; rfl
  · have e2 : ((A.obj o').refs.map (numOf A)).take (m + 1) = ((A.obj o').refs.map (numOf A)).take m ++ [numOf A n] := take_snoc (by rw [List.getElem?_map, hn]; rfl)
    rw [e2]
    exact ha.new.of_block fun k hk => by rw [hW3.1]; exact setCell_other W2 xb 1 v' (hown' k hk).2

theorem info67 : (Try.prog.info? 67).map (fun i => (i.zero, i.size, i.bytes)) = some (some (.agg #[.int .i64 0, .slice none 0 0, .slice none 0 0]), 3, 56) := by kernel_rfl

/-- Where a list lies to which an object of a dump was appended. -/
theorem own_append {W W2 : World} {base j : Nat} {ov v' : Value} {xs news : List Value} {a : Addr} (hrow : W.ownsRow base 67 3 ov j xs) (hrun : (Builtin.append_ #[36, 36] 36 #[ov, .slice (some a) 1 1]).run Try.prog W = .ok v' W2)
    (hl : news.length = 3) (hnews : ∀ k u, news[k]? = some u → W.cell? (a.add k) = some u) (h1 : ∀ u ∈ news, u.oneCell' = true) (hj : j ≤ 1000000) : v'.ownBlock = ov.ownBlock ∨ v'.ownBlock = some W.heap.size := by
  obtain ⟨i0, hi0, hz0, hz1, hz2⟩ := info_parts info67
  rcases hrow.2 with ⟨rfl, rfl⟩ | ⟨g, cap, cur, rfl, hbg, hg, hnc, hcm, hcs, htake⟩
  · have hr := run_append_nil (P := Try.prog) W 36 36 67 i0 _ Try.underlying36 hi0 hz0 a 1 1 news (by rw [hl, hz1]) hnews (by omega) (by omega) (by rw [hz2]; omega)
    rw [hrun] at hr
    cases hr
    exact .inr rfl
  · by_cases hroom : j + 1 ≤ cap
    · have hr := run_append_room (P := Try.prog) W 36 36 67 i0 Try.underlying36 hi0 g j cap cur hg a 1 1 news (by rw [hl, hz1]) hnews h1 hroom (by rw [hl, hz1, hcs]; omega)
      rw [hrun] at hr
      cases hr
      exact .inl rfl
    · have hr := run_append_grow (P := Try.prog) W 36 36 67 i0 _ Try.underlying36 hi0 hz0 ⟨g, 0, none⟩ j cap xs (by rw [hrow.1, hz1]) (hrow.cells (g := g) rfl) a 1 1 news (by rw [hl, hz1]) hnews (by omega) (by omega) (growslice_fits (by omega) (by rw [hz2]; omega))
      rw [hrun] at hr
      cases hr
      exact .inr rfl

theorem dj4_end {j xb o : Nat} {W : World} (hNs : A.search.length ≤ 1000000) (hjN : j < A.search.length) (ho : A.search[j]? = some o) (h : DJ4 hb hx dx A φ L s w lv j xb (A.obj o).refs.length W) (ndx : dx < w.heap.size) :
    ∃ v0 a1 b1 d1 a2 b2 d2 ov, W.cell? ⟨xb, 0, none⟩ = some (.int .i64 v0) ∧ W.cell? ⟨xb, 1, none⟩ = some (.slice a1 b1 d1) ∧ W.cell? ⟨xb, 2, none⟩ = some (.slice a2 b2 d2) ∧ W.cell? ⟨dx, 1, none⟩ = some ov ∧
        ∃ va vn vc W2, (Builtin.append_ #[36, 36] 36 #[ov, .slice (some ⟨W.heap.size, 0, none⟩) 1 1]).run Try.prog (W.alloc (.cells #[.int .i64 v0, .slice a1 b1 d1, .slice a2 b2 d2] 67)) = .ok (.slice va vn vc) W2 ∧ W2.cell? ⟨dx, 1, none⟩ = some ov ∧ W2.frozen? ⟨dx, 1, none⟩ = false ∧
          DJ3 hb hx dx A φ L s w lv (j + 1) (W2.setCell ⟨dx, 1, none⟩ (.slice va vn vc)) := by
  obtain ⟨w1, w2, w3, w4, L', s', G', sv, ov, xs, rv, wv, o', hD, hI, ho', hf, hxb1, hxb2, hf2, hxc, hrv, hro, hwv, hwo⟩ := h
  have : o' = o := by rw [ho] at ho'; cases ho'; rfl
  subst this
  rw [List.take_of_length_le (by simp)] at hrv
  have hs1 := hD.w1size
  have hs2 := hD.fr1.size
  have hsz2 := hD.fr2.size
  have hsz3 := hf.size
  have hsz4 := hf2.size
  have hF : Fr (fun _ => False) w3 W := hf.trans hf2 (fun k hk => .inr (by omega))
  have hDW : DTwo hb hx dx A φ L s w lv w1 w2 L' s' G' W := hD.of_fr (hF.mono fun _ h => h.elim)
  have hIW := hI.of_fr hF
  have hwW : IsSl W wv (A.obj o').raws := hwv.of_block fun k hk => hf2.block k (hwv.lt hk) (by have := hwo k hk; have := hwv.lt hk; rintro (e | e) <;> omega)
  obtain ⟨a1, d1, e1⟩ := hrv.shape
  obtain ⟨a2, d2, e2⟩ := hwW.shape
  have hov := hIW.row.lt
  have hovlt : ∀ k, ov.ownBlock = some k → w2.heap.size ≤ k ∧ k < w3.heap.size := fun k hk => ⟨(hov k hk).1, (hI.row.lt k hk).2⟩
  obtain ⟨i0, hi0, hz0, hz1, hz2⟩ := info_parts info67
  have hrowA := hIW.row.alloc (.cells #[.int .i64 (A.obj o').tag, rv, wv] 67)
  obtain ⟨v', W2, hrun, hown, hgr, hnil⟩ := run_append_own (P := Try.prog) (W.alloc (.cells #[.int .i64 (A.obj o').tag, rv, wv] 67)) w2.heap.size 36 36 67 i0 (.agg #[.int .i64 0, .slice none 0 0, .slice none 0 0]) 3 56 Try.underlying36 hi0 hz0 hz1 hz2 rfl (by omega)
    ov j xs hrowA ⟨W.heap.size, 0, none⟩ 1 1 [.int .i64 (A.obj o').tag, rv, wv] rfl (fun k u hu => by
      have hnew := World.alloc_heap_new W (.cells #[.int .i64 (A.obj o').tag, rv, wv] 67)
      have hadd : (⟨W.heap.size, 0, none⟩ : Addr).add k = ⟨W.heap.size, k, none⟩ := by unfold Addr.add; split <;> simp_all
      rw [hadd]
      simp only [World.cell?, hnew]
      simpa using hu) (fun u hu => by
      rw [e1, e2] at hu
      simp at hu
      rcases hu with rfl | rfl | rfl <;> rfl) (by unfold maxLen; omega) (by omega) (by simp; omega)
  have hv' : ∃ va vn vc, v' = .slice va vn vc := by
    rcases hown.2 with ⟨h, _⟩ | ⟨g, cap, cur, h, _⟩
    · exact ⟨_, _, _, h⟩
    · exact ⟨_, _, _, h⟩
  obtain ⟨va, vn, vc, hv'⟩ := hv'
  have hdlt := (Array.getElem?_eq_some_iff.1 hIW.at_dx).1
  have hdov : ov.ownBlock ≠ some dx := fun e => by have := hovlt dx e; omega
  have hFA : Fr (fun _ => False) W (W.alloc (.cells #[.int .i64 (A.obj o').tag, rv, wv] 67)) := fr_alloc1 _ _
  have hF2 : Fr (fun k => ov.ownBlock = some k) W W2 := (hFA.mono fun _ h => h.elim).trans (B' := fun k => ov.ownBlock = some k) ⟨hgr.os, hgr.tape, hgr.output, hgr.size, fun k hk hne => hgr.block k hk (fun e => hne e.symm)⟩ (fun _ h => .inl h)
  have hdx2 : W2.heap[dx]? = some (.cells #[sv, ov] 38 (0, 0)) := by rw [hF2.block dx hdlt hdov]; exact hIW.at_dx
  have hvlt : ∀ k, v'.ownBlock = some k → w2.heap.size ≤ k ∧ (ov.ownBlock = some k ∨ W.heap.size < k) := by
    intro k hk
    refine ⟨(hown.lt k hk).1, ?_⟩
    rcases own_append hrowA hrun (news := [.int .i64 (A.obj o').tag, rv, wv]) rfl (fun k u hu => by
      have hnew := World.alloc_heap_new W (.cells #[.int .i64 (A.obj o').tag, rv, wv] 67)
      have hadd : (⟨W.heap.size, 0, none⟩ : Addr).add k = ⟨W.heap.size, k, none⟩ := by unfold Addr.add; split <;> simp_all
      rw [hadd]
      simp only [World.cell?, hnew]
      simpa using hu) (fun u hu => by
      rw [e1, e2] at hu
      simp at hu
      rcases hu with rfl | rfl | rfl <;> rfl) (by omega) with h | h
    · left; rw [← h]; exact hk
    · right; rw [h] at hk; cases hk; simp
  rw [e1, e2] at hrun hxc
  rw [hv'] at hrun
  refine ⟨(A.obj o').tag, a1, _, d1, a2, _, d2, ov, by simp [World.cell?, hxc], by simp [World.cell?, hxc], by simp [World.cell?, hxc], by simp [World.cell?, hIW.at_dx], va, vn, vc, W2, hrun, by simp [World.cell?, hdx2], by simp [World.frozen?, hdx2], ?_⟩
  rw [← hv']
  have nsl : ∀ {v : Value} {ys : List Int}, IsSl W v ys → ∀ k, v.ownBlock = some k → k ≠ dx := by
    intro v ys h k hk e
    subst e
    rcases h with ⟨h, _⟩ | ⟨b, off, cap, cs, h, hb', _⟩
    · rw [h] at hk; cases hk
    · rw [h] at hk
      cases hk
      have h9 := hIW.at_dx
      rw [hb'] at h9
      simp at h9
  have keep : ∀ {v : Value} {ys : List Int}, IsSl W v ys → (∀ k, v.ownBlock = some k → ov.ownBlock ≠ some k) → IsSl (W2.setCell ⟨dx, 1, none⟩ v') v ys := by
    intro v ys h hne
    exact h.of_block fun k hk => (setCell_other W2 dx 1 v' (nsl h k hk)).trans (hF2.block k (h.lt hk) (hne k hk))
  have hnew : ∀ {v : Value} {ys : List Int}, IsSl W v ys → (∀ k, v.ownBlock = some k → ov.ownBlock ≠ some k) → ∀ k, v.ownBlock = some k → v'.ownBlock ≠ some k := by
    intro v ys h hne k hk e
    have h1 := h.lt hk
    rcases (hvlt k e).2 with h2 | h2
    · exact hne k hk h2
    · omega
  have hrvne : ∀ k, rv.ownBlock = some k → ov.ownBlock ≠ some k := fun k hk e => by have := hro k hk; have := (hovlt k e).2; omega
  have hwvne : ∀ k, wv.ownBlock = some k → ov.ownBlock ≠ some k := fun k hk e => by have := (hwo k hk).1; have := (hovlt k e).2; omega
  have hdv : v'.ownBlock ≠ some dx := fun e => by have := (hvlt dx e).1; omega
  have hxl := hIW.row.1
  refine ⟨w1, w2, L', s', G', sv, v', xs ++ [.int .i64 (A.obj o').tag, rv, wv], hDW.of_fr ((hF2.mono fun k hk => .inr (hovlt k hk).1).trans (fr_setCell W2 dx 1 v') fun k hk => .inl (.inl hk)), ?_, keep hIW.slots fun k hk => (hIW.sown k hk).2, ?_, ?_, ?_⟩
  · rw [setCell_block W2 dx 1 v' hdx2]; rfl
  · refine hown.kept (row := some dx) ⟨rfl, rfl, rfl, by simp, fun k _ hk => setCell_other W2 dx 1 v' (fun e => hk (by rw [e]))⟩ (.inr hdv)
  · exact fun k hk => ⟨(hIW.sown k hk).1, hnew hIW.slots (fun k hk => (hIW.sown k hk).2) k hk⟩
  · intro i m hi hm
    by_cases hij : i < j
    · obtain ⟨rv', wv', q1, q2, q3, q4, q5, q6, q7⟩ := (hIW.objs i m hij hm).ex
      exact ⟨rv', wv', by rw [List.getElem?_append_left (by omega)]; exact q1, by rw [List.getElem?_append_left (by omega)]; exact q2, by rw [List.getElem?_append_left (by omega)]; exact q3, keep q4 (fun k hk => (q6 k hk).2), keep q5 (fun k hk => (q7 k hk).2), fun k hk => ⟨(q6 k hk).1, hnew q4 (fun k hk => (q6 k hk).2) k hk⟩, fun k hk => ⟨(q7 k hk).1, hnew q5 (fun k hk => (q7 k hk).2) k hk⟩⟩
    · have : i = j := by omega
      subst this
      have : m = o' := by rw [ho] at hm; cases hm; rfl
      subst this
      exact ⟨rv, wv, by rw [List.getElem?_append_right (by omega), show 3 * i - xs.length = 0 by omega]; rfl, by rw [List.getElem?_append_right (by omega), show 3 * i + 1 - xs.length = 1 by omega]; rfl, by rw [List.getElem?_append_right (by omega), show 3 * i + 2 - xs.length = 2 by omega]; rfl,
        keep hrv hrvne, keep hwW hwvne, fun k hk => ⟨by have := hro k hk; omega, hnew hrv hrvne k hk⟩, fun k hk => ⟨by have := (hwo k hk).1; omega, hnew hwW hwvne k hk⟩⟩

theorem clone_at {b p sz nr : Nat} {W : World} {ws : List Int} {raws : List Int} (hlen : raws.length = sz - (1 + nr)) (hb : b < W.heap.size) (hsz : 1 + nr ≤ sz) (hlim : sz ≤ 1000000)
    (hcell : ∀ j x, ws[j]? = some x → W.cell? ⟨b, p + j, none⟩ = some (.int .i64 x)) (hraws : ∀ k v, raws[k]? = some v → ws[1 + nr + k]? = some v) :
    ∀ W1 : World, (∀ k, k < W.heap.size → W1.heap[k]? = W.heap[k]?) → W.heap.size ≤ W1.heap.size →
      Calls Try.prog 48 #[.slice (if sz = 1 + nr then some ⟨b, p, none⟩ else some ⟨b, p + (1 + nr), none⟩) (sz - (1 + nr)) (sz - (1 + nr))] W1 fun e w' => ∃ ra rn rc, e = .returned (.slice ra rn rc) ∧ IsSl w' (.slice ra rn rc) raws ∧ Fr (fun _ => False) W1 w' ∧
        ∀ k, (Value.slice ra rn rc).ownBlock = some k → W1.heap.size ≤ k := by
  intro W1 hW1 hle
  by_cases h : sz = 1 + nr
  · rw [if_pos h]
    refine clone_any hlen (fun W' _ j y hj => ?_) (by omega)
    have : raws = [] := List.eq_nil_of_length_eq_zero (by omega)
    rw [this] at hj; simp at hj
  · rw [if_neg h]
    refine clone_any hlen (fun W' hW' j y hj => ?_) (by omega)
    have hadd : (⟨b, p + (1 + nr), none⟩ : Addr).add j = ⟨b, p + (1 + nr) + j, none⟩ := by unfold Addr.add; split <;> simp_all
    rw [hadd, cell_of_heap ((hW' b (by omega)).trans (hW1 b hb)), Nat.add_assoc]
    exact hcell _ _ (hraws j y hj)

theorem dj3_step {j : Nat} {W : World} (g : DGround hb hx dx L s w) (hNs : A.search.length ≤ 1000000) (h : DJ3 hb hx dx A φ L s w lv j W) (hj : j < A.search.length) :
    ∃ lb lo lc r ob op sz x nr tg, lv = .slice (some ⟨lb, lo, none⟩) A.search.length lc ∧ A.search.length ≤ lc ∧ W.cell? ⟨lb, lo + j, none⟩ = some (.int .i64 r) ∧ W.cell? ⟨hx, 0, none⟩ = some (.pointer (some ⟨hb, 0, none⟩)) ∧
      Calls Try.prog 45 #[.pointer (some ⟨hb, 0, none⟩), .int .i64 r] W (fun e W' => e = .returned (.slice (some ⟨ob, op, none⟩) sz sz) ∧ W = W') ∧ W.cell? ⟨ob, op, none⟩ = some (.int .i64 x) ∧ 0 ≤ x ∧ x ≤ 4611686018427387904 ∧ refsN x = nr ∧ tagN x = tg ∧ 1 + nr ≤ sz ∧ nr ≤ 4000 ∧ sz ≤ 1000000 ∧
      (∀ W1, Eqw (W.alloc (.cells #[.int .i64 0, .slice none 0 0, .slice none 0 0] 67)) W1 → Calls Try.prog 48 #[.slice (if sz = 1 + nr then some ⟨ob, op, none⟩ else some ⟨ob, op + (1 + nr), none⟩) (sz - (1 + nr)) (sz - (1 + nr))] W1 fun e W2 => ∃ ra rn rc, e = .returned (.slice ra rn rc) ∧
        (∀ k, k < 3 → ∃ u, W2.cell? ⟨W.heap.size, k, none⟩ = some u) ∧ (∀ k, W2.frozen? ⟨W.heap.size, k, none⟩ = false) ∧
        ∀ W3, Eqw (((W2.setCell ⟨W.heap.size, 0, none⟩ (.int .i64 tg)).setCell ⟨W.heap.size, 1, none⟩ (.slice none 0 0)).setCell ⟨W.heap.size, 2, none⟩ (.slice ra rn rc)) W3 → DJ4 hb hx dx A φ L s w lv j W.heap.size 0 W3) ∧
      (∀ W1, Eqw W W1 → Calls Try.prog 48 #[.slice (if sz = 1 + nr then some ⟨ob, op, none⟩ else some ⟨ob, op + (1 + nr), none⟩) (sz - (1 + nr)) (sz - (1 + nr))] W1 fun e W2 => ∃ ra rn rc, e = .returned (.slice ra rn rc) ∧
        ∀ W3, Eqw (W2.alloc (.cells #[.int .i64 tg, .slice none 0 0, .slice ra rn rc] 67)) W3 → DJ4 hb hx dx A φ L s w lv j W2.heap.size 0 W3) ∧
      (∀ xb k W1, DJ4 hb hx dx A φ L s w lv j xb k W1 → k < nr → ∃ y z, W1.cell? ⟨ob, op + (1 + k), none⟩ = some (.int .i64 y) ∧ Push W1 ⟨xb, 1, none⟩ y z (w.heap.size + 1) hx (DJ4 hb hx dx A φ L s w lv j xb (k + 1))) ∧
      (∀ xb W1, DJ4 hb hx dx A φ L s w lv j xb nr W1 → ∃ v0 a1 b1 d1 a2 b2 d2 ov, W1.cell? ⟨xb, 0, none⟩ = some (.int .i64 v0) ∧ W1.cell? ⟨xb, 1, none⟩ = some (.slice a1 b1 d1) ∧ W1.cell? ⟨xb, 2, none⟩ = some (.slice a2 b2 d2) ∧ W1.cell? ⟨dx, 1, none⟩ = some ov ∧
        ∃ va vn vc W2, (Builtin.append_ #[36, 36] 36 #[ov, .slice (some ⟨W1.heap.size, 0, none⟩) 1 1]).run Try.prog (W1.alloc (.cells #[.int .i64 v0, .slice a1 b1 d1, .slice a2 b2 d2] 67)) = .ok (.slice va vn vc) W2 ∧ W2.cell? ⟨dx, 1, none⟩ = some ov ∧ W2.frozen? ⟨dx, 1, none⟩ = false ∧
          DJ3 hb hx dx A φ L s w lv (j + 1) (W2.setCell ⟨dx, 1, none⟩ (.slice va vn vc))) := by
  have h0 := h
  obtain ⟨w1, w2, L', s', G', sv, ov, xs, hD, hI⟩ := h0
  have hr := hD.rep g
  obtain ⟨c1, c2, hm, hlv⟩ := hD.cells g
  obtain ⟨lb, lo, lc, e1, l1, l2, _⟩ := hlv.get (i := j) (by simpa using hj)
  have l3 := l2 j (by simpa using hj)
  rw [List.length_map] at e1 l1
  have ho : A.search[j]? = some A.search[j] := List.getElem?_eq_getElem hj
  obtain ⟨o, hoo⟩ : ∃ o, o = A.search[j] := ⟨_, rfl⟩
  rw [← hoo] at ho
  have hre : Hp.Reach A o := (mem_search hD.base.exact.wf).1 (List.mem_of_getElem? ho)
  have er : (A.search.map φ).getD j 0 = φ o := by rw [List.getD_eq_getElem?_getD, List.getElem?_map, ho]; rfl
  rw [er] at l3
  obtain ⟨ob, op, fs, hcall, hfl, hcell, hrf, hobl, off1, on1, oc1, oe1, op1, oa1⟩ := obj_words hr hD.base.exact hD.base.small hre
  obtain ⟨f1, f2, f3⟩ := hD.base.exact.fits o hre
  have hsz : (A.obj o).size = 1 + (A.obj o).refs.length + (A.obj o).raws.length := rfl
  have hclone := clone_at (b := ob) (p := op) (sz := (A.obj o).size) (nr := (A.obj o).refs.length) (W := W) (raws := (A.obj o).raws) (by omega) hobl (by omega) (by omega) hcell (fun k v hk => by
    rw [show 1 + (A.obj o).refs.length + k = (fs.length + k) + 1 by omega, List.getElem?_cons_succ, List.getElem?_append_right (by omega), Nat.add_sub_cancel_left]; exact hk)
  have x1 := hdr_nonneg (A.obj o).tag (A.obj o).refs.length (A.obj o).raws.length
  have x2 : hdr (A.obj o).tag (A.obj o).refs.length (A.obj o).raws.length ≤ 4611686018427387904 := by unfold Hp.hdr; omega
  have x3 := refsN_hdr (t := (A.obj o).tag) (r := (A.obj o).refs.length) (w := (A.obj o).raws.length) f1 (by omega)
  have x4 : tagN (hdr (A.obj o).tag (A.obj o).refs.length (A.obj o).raws.length) = (A.obj o).tag := tagN_hdr f1
  have x5 := hcell 0 _ rfl
  rw [Nat.add_zero] at x5
  refine ⟨lb, lo, lc, φ o, ob, op, (A.obj o).size, hdr (A.obj o).tag (A.obj o).refs.length (A.obj o).raws.length, (A.obj o).refs.length, (A.obj o).tag, e1, l1, l3, c1, hcall W rfl, x5, x1, x2, x3, x4, by omega, f2, by omega, ?_, ?_, ?_, ?_⟩
  · intro W1 hW1
    have hF1 : Fr (fun _ => False) W W1 := (fr_alloc1 W _).trans (hW1.fr (fun _ => False)) fun _ h => h.elim
    refine (hclone W1 (fun k hk => hF1.block k hk id) hF1.size).mono ?_
    rintro e W2 ⟨ra, rn, rc, rfl, hsl, hf2, hown⟩
    have hx1 : W1.heap[W.heap.size]? = some (.cells #[.int .i64 0, .slice none 0 0, .slice none 0 0] 67 (0, 0)) := by rw [hW1.1]; exact World.alloc_heap_new W _
    have hlt1 : W.heap.size < W1.heap.size := (Array.getElem?_eq_some_iff.1 hx1).1
    have hx2 : W2.heap[W.heap.size]? = some (.cells #[.int .i64 0, .slice none 0 0, .slice none 0 0] 67 (0, 0)) := by rw [hf2.block _ hlt1 id]; exact hx1
    refine ⟨ra, rn, rc, rfl, fun k hk => ?_, fun k => by simp [World.frozen?, hx2], fun W3 hW3 => ?_⟩
    · simp only [World.cell?, hx2, Option.isSome_none, Bool.false_eq_true, if_false]
      obtain rfl | rfl | rfl : k = 0 ∨ k = 1 ∨ k = 2 := by omega
      all_goals exact ⟨_, rfl⟩
    · have hs2 := hf2.size
      refine dj4_start (wv := .slice ra rn rc) hD hI ho ?_ (Nat.le_refl _) ?_ ?_ fun k hk => ?_
      · have F := (hF1.trans hf2 fun _ h => h.elim)
        have F3 := F.trans (fr_setCell W2 W.heap.size 0 (.int .i64 (A.obj o).tag)) fun k hk => .inr (by omega)
        have F4 := F3.trans (fr_setCell _ W.heap.size 1 (.slice none 0 0)) fun k hk => .inr (by omega)
        have F5 := F4.trans (fr_setCell _ W.heap.size 2 (.slice ra rn rc)) fun k hk => .inr (by omega)
        exact F5.trans (hW3.fr (fun _ => False)) fun _ h => h.elim
      · rw [hW3.1, setCell_block _ W.heap.size 2 _ (setCell_block _ W.heap.size 1 _ (setCell_block W2 W.heap.size 0 _ hx2))]; rfl
      · refine hsl.of_block fun k hk => ?_
        have := hown k hk
        rw [hW3.1, setCell_other _ _ _ _ (by omega), setCell_other _ _ _ _ (by omega), setCell_other _ _ _ _ (by omega)]
      · have := hown k hk; omega
  · intro W1 hW1
    have hF1 : Fr (fun _ => False) W W1 := hW1.fr _
    refine (hclone W1 (fun k hk => hF1.block k hk id) hF1.size).mono ?_
    rintro e W2 ⟨ra, rn, rc, rfl, hsl, hf2, hown⟩
    refine ⟨ra, rn, rc, rfl, fun W3 hW3 => ?_⟩
    have hs1 := hF1.size
    have hs2 := hf2.size
    have hF2 : Fr (fun _ => False) W2 W3 := (fr_alloc1 W2 _).trans (hW3.fr (fun _ => False)) fun _ h => h.elim
    refine dj4_start (wv := .slice ra rn rc) hD hI ho ((hF1.trans hf2 fun _ h => h.elim).trans hF2 fun _ h => h.elim) (by omega) ?_ ?_ fun k hk => ?_
    · rw [hW3.1]; exact World.alloc_heap_new W2 _
    · exact hsl.of_block fun k hk => hF2.block k (hsl.lt hk) id
    · have h1 := hown k hk
      have h2 := hsl.lt hk
      omega
  · intro xb k W1 h4 hk
    obtain ⟨a0, m1, m2, c0, q1, q2⟩ := hD.base.walked.base (aOf (φ o)) (by omega)
    rw [q2] at oe1
    cases oe1
    obtain ⟨x, h1, h2⟩ := dj4_push g ho h4 (List.getElem?_eq_getElem hk) f2 hre q1 op1 oa1
    exact ⟨x, _, h1, h2⟩
  · intro xb W1 h4
    exact dj4_end hNs hj ho h4 (Array.getElem?_eq_some_iff.1 g.xd).1
end
end Go.Proofs.Ythjokcjdphempaa
