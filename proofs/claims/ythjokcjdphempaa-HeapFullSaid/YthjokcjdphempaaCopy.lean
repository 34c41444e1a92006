/- The walk through (*Heap).copied: one object is copied to the area now. -/
import Derived.Test.YthjokcjdphempaaApp
import Derived.Deep.RegionHeld3
import Derived.Test.YthjokcjdphempaaAny
import Derived.Deep.QuietTactic
import Derived.BigQuiet
import Derived.Outline
namespace Go.Proofs.Ythjokcjdphempaa
open Go.RowKit Hp

theorem quiet_same {P : Program} {f : FuncId} {args : Array Value} {w : World} {n : Nat} {v : Value}
    (h : Calls P f args (w.drewN n) fun e w' => e = .returned v ∧ w.drewN n = w') : Calls P f args (w.drewN n) fun e w'' => e = .returned v ∧ ∃ m, w'' = w.drewN m :=
  h.mono fun _ _ ⟨he, hm⟩ => ⟨he, n, hm.symm⟩

theorem step_app {ops : Array Oper} {o : Oper} {a : Act} {w w0 : World} {K : Act → World → Prop} {Q : Exit → Act → World → Prop} {E : Prop}
    (hg : o.guard = none) (s x : Operand) (hop : o.op = Op.call { callee := Callee.builtin Builtin.append, args := #[s, x], argTypes := #[35, 35] }) {vs vx : Value} {xs ys : List Int} (hs : a.eval s = vs) (hx : a.eval x = vx)
    (happ : ∀ W : World, W.heap = w0.heap → ∀ ty, ∃ v' w', (Builtin.append_ #[35, 35] ty #[vs, vx]).run Try.prog W = .ok v' w' ∧ Appended W w' vs v' xs ys) (hw : w.heap = w0.heap)
    (hK : ∀ v' w', Appended w w' vs v' xs ys → K (a.put o.dst v') w') :
    if Region.wanted o (yielded ops a.tmps) = true then Oper.wp Try.prog o a w K Q else E := by
  have hwt : Region.wanted o (yielded ops a.tmps) = true := by simp [Region.wanted, hg]
  rw [if_pos hwt]
  obtain ⟨v', w', hr, ha⟩ := happ w hw o.type
  exact Lib.wp_append_run w s x 35 35 hop vs vx hs hx v' w' hr (hK v' w' ha)

theorem IsSl.of_heap {w w' : World} {v : Value} {xs : List Int} (h : IsSl w v xs) (hh : w'.heap = w.heap) : IsSl w' v xs := h.of_block fun k _ => by rw [hh]
theorem HRep.of_heap {w w' : World} {hb : Nat} {L : Lay} {s : HS} (h : HRep w hb L s) (hh : w'.heap = w.heap) : HRep w' hb L s :=
  ⟨by rw [hh]; exact h.blk, fun i hi => (h.sl i hi).of_heap hh, h.off, h.apart⟩

theorem wp_app {o : Oper} {a : Act} {w w0 : World} {K : Act → World → Prop} {Q : Exit → Act → World → Prop}
    (s x : Operand) (hop : o.op = Op.call { callee := Callee.builtin Builtin.append, args := #[s, x], argTypes := #[35, 35] }) {vs vx : Value} {xs ys : List Int} (hs : a.eval s = vs) (hx : a.eval x = vx)
    (happ : ∀ W : World, W.heap = w0.heap → ∀ ty, ∃ v' w', (Builtin.append_ #[35, 35] ty #[vs, vx]).run Try.prog W = .ok v' w' ∧ Appended W w' vs v' xs ys) (hw : w.heap = w0.heap)
    (hK : ∀ v' w', Appended w w' vs v' xs ys → K (a.put o.dst v') w') : Oper.wp Try.prog o a w K Q := by
  obtain ⟨v', w', hr, ha⟩ := happ w hw o.type
  exact Lib.wp_append_run w s x 35 35 hop vs vx hs hx v' w' hr (hK v' w' ha)

theorem cell_of_heap {w w' : World} {a : Addr} (h : w'.heap[a.block]? = w.heap[a.block]?) : w'.cell? a = w.cell? a := World.cell?_of_block h

theorem frozen_of_heap {w w' : World} {a : Addr} (h : w'.heap[a.block]? = w.heap[a.block]?) : w'.frozen? a = w.frozen? a := World.frozen?_of_block h

set_option maxRecDepth 100000 in
set_option maxHeartbeats 2000000 in
theorem copied_core {hb now ln z b off p ncap : Nat} {r cp to x0 : Int} {na : Option Addr} {xs ys : List Int} {w : World}
    (HW : ∀ W : World, W.heap = w.heap → Calls Try.prog 45 #[.pointer (some ⟨hb, 0, none⟩), .int .i64 r] W fun e w' => e = .returned (.slice (some ⟨b, off + p, none⟩) z z) ∧ W = w')
    (HR : ∀ W : World, Calls Try.prog 82 #[.int .i64 now, .int .i64 ln] W fun e w' => e = .returned (.int .i64 to) ∧ W = w')
    (happ : ∀ W : World, W.heap = w.heap → ∀ ty, ∃ v' w', (Builtin.append_ #[35, 35] ty #[.slice na ln ncap, .slice (some ⟨b, off + p, none⟩) z z]).run Try.prog W = .ok v' w' ∧ Appended W w' (.slice na ln ncap) v' xs ys)
    (hna : (Value.slice na ln ncap).ownBlock ≠ some hb) (hnb : (Value.slice na ln ncap).ownBlock ≠ some b) (hbb : b ≠ hb)
    (hnow : now < 2) (hs1 : 1 ≤ z) (hz : z ≤ 1000000000000) (hto : 0 ≤ to ∧ to ≤ 9000000000000) (hc1 : 0 ≤ cp) (hc2 : cp ≤ 1000000000000)
    (d1 : w.cell? ⟨hb, 11, none⟩ = some (.int .i64 now)) (d2 : w.cell? ⟨hb, 8 + now, none⟩ = some (.slice na ln ncap)) (d3 : w.cell? ⟨hb, 2, none⟩ = some (.int .i64 cp)) (c3 : w.cell? ⟨b, off + p, none⟩ = some (.int .i64 x0))
    (f1 : ∀ k, w.frozen? ⟨hb, k, none⟩ = false) (f2 : w.frozen? ⟨b, off + p, none⟩ = false) :
    Calls Try.prog 84 #[.pointer (some ⟨hb, 0, none⟩), .int .i64 r] w fun e w' => e = .returned (.int .i64 to) ∧
      ∃ v' w0 w1, w0.heap = w.heap ∧ w0.os = w.os ∧ w0.tape = w.tape ∧ w0.output = w.output ∧ Appended w0 w1 (.slice na ln ncap) v' xs ys ∧ w' = ((w1.setCell ⟨hb, 8 + now, none⟩ v').setCell ⟨b, off + p, none⟩ (.int .i64 (-to))).setCell ⟨hb, 2, none⟩ (.int .i64 (cp + z)) := by
  have HW' := Lib.hid HW
  have HR' := Lib.hid HR
  have HA' := Lib.hid happ
  have lh := World.block_lt_of_cell? w _ d1
  have lb := World.block_lt_of_cell? w _ c3
  have B1 := Lib.hid hna
  have B2 := Lib.hid hnb
  have F1 := Lib.hid f1
  obtain ⟨to1, to2⟩ := hto
  have n1 : (0 : Int) ≤ (now : Int) := by omega
  have n2 : (now : Int) < 3 := by omega
  clear HW HR happ hna hnb f1
  go_enter Try.func84, Try.ntmps84
  go_wp2_with (first | (go_at_call 45; refine (HW'.out _ rfl).mono ?_; rintro e w' ⟨rfl, rfl⟩))
  go_quiet ((go_at_call 82; exact quiet_same (HR'.out _)))
  go_wp2
  refine wp_region_z (fun W => W.cell? ⟨hb, 11, none⟩ = some (.int .i64 now) ∧ W.cell? ⟨hb, 8 + now, none⟩ = some (.slice na ln ncap)) 19 (by kernel_rfl) ?_
  have hS : ((w.drewN nq).drew).cell? ⟨hb, 11, none⟩ = some (.int .i64 now) ∧ ((w.drewN nq).drew).cell? ⟨hb, 8 + now, none⟩ = some (.slice na ln ncap) := ⟨d1, d2⟩
  refine anyZ_marks (fuel := 3) (a' := ?a1) [true, true, true, true, true, true, true, true, true, true, true, true, true, true, true, false, true, true, false, false] rfl hS (fun _ _ d _ _ h => by cases d <;> exact h) (by kernel_rfl) (fun W hW => ?_) ?_
  rotate_left
  · obtain ⟨s1, s2⟩ := hW
    simp only [pick]
    repeat (go_big_quiet_step (fail))
    refine wpQuiet_nil ?_
    show _ = _
    with_reducible rfl
  refine anyZ_step 15 rfl (by kernel_rfl) rfl (fun K hK => ?_)
  refine wp_app (w0 := w) _ _ rfl rfl rfl HA'.out rfl ?_
  intro v' w1 ha0
  have ha : Appended ((w.drewN nq).drew) w1 (.slice na ln ncap) v' xs ys := ha0
  clear ha0
  obtain ⟨a', c', rfl⟩ := ha.new.shape
  rw [List.length_append] at ha
  have hh : w1.heap[hb]? = w.heap[hb]? := ha.fr.block hb lh B1.out
  have hbk : w1.heap[b]? = w.heap[b]? := ha.fr.block b lb B2.out
  have k1 := (cell_of_heap (a := ⟨hb, 11, none⟩) hh).trans d1
  have k2 := (cell_of_heap (a := ⟨hb, 8 + now, none⟩) hh).trans d2
  have k3 := (cell_of_heap (a := ⟨hb, 2, none⟩) hh).trans d3
  have k4 := (cell_of_heap (a := ⟨b, off + p, none⟩) hbk).trans c3
  have g1 := (frozen_of_heap (a := ⟨hb, 8 + now, none⟩) hh).trans (F1.out _)
  have g2 := (frozen_of_heap (a := ⟨hb, 2, none⟩) hh).trans (F1.out _)
  have g3 := (frozen_of_heap (a := ⟨b, off + p, none⟩) hbk).trans f2
  have Ha := Lib.hid ha
  clear ha hh hbk d1 d2 d3 c3 f2
  refine hK _ _ (.inr ⟨k1, k2⟩) ?_
  clear hK K hS
  refine anyZ_step 18 rfl (by kernel_rfl) rfl (fun K hK => ?_)
  go_simp
  refine hK _ _ (.inr ⟨k1, k2⟩) ?_
  clear hK K
  refine anyZ_step 19 rfl (by kernel_rfl) rfl (fun K hK => ?_)
  go_simp
  refine hK _ _ (.inl (by kernel_rfl)) ?_
  clear hK K
  refine anyZ_done (by kernel_rfl) ?_ _
  go_wp2
  go_ret
  exact ⟨rfl, _, (w.drewN nq).drew, w1, rfl, rfl, rfl, rfl, Ha.out, rfl⟩

theorem setSl_ar (s : HS) {i : Nat} (l : List Int) (h : i < 3) : s.setSl i l = s.setAr i l := by unfold HS.setSl; rw [if_neg (by omega), if_neg (by omega)]
theorem sl_ar (s : HS) {i : Nat} (h : i < 3) : s.sl i = s.ar i := by unfold HS.sl; rw [if_neg (by omega), if_neg (by omega)]
theorem cellOf_ar {i : Nat} (h : i < 3) : cellOf i = 8 + i := by unfold cellOf; rw [if_pos h]

/-- The words at a place of an area. -/
def wordsAt (s : HS) (n : Int) : List Int := ((s.ar (aOf n)).drop (pOf n)).take (sizeN (headAt s n))

/-- What a function leaves of a heap's memory: the new slices lie in its old blocks, or in new ones. -/
structure Left (hb : Nat) (L L' : Lay) (w w' : World) : Prop where
  fr : Fr (L.foot hb) w w'
  foot : ∀ k, L'.foot hb k → L.foot hb k ∨ w.heap.size ≤ k

theorem Left.refl (hb : Nat) (L : Lay) (w : World) : Left hb L L w w := ⟨Fr.refl _ _, fun _ h => .inl h⟩
theorem Left.trans {hb : Nat} {L L1 L2 : Lay} {w w1 w2 : World} (h : Left hb L L1 w w1) (k : Left hb L1 L2 w1 w2) : Left hb L L2 w w2 :=
  ⟨h.fr.trans k.fr h.foot, fun j hj => (k.foot j hj).elim (h.foot j) fun hle => .inr (Nat.le_trans h.fr.size hle)⟩

theorem ownBlock_foot {hb : Nat} {L : Lay} {i k : Nat} (hi : i < 5) (h : (L.v i).ownBlock = some k) : L.foot hb k := .inr ⟨i, hi, h⟩

theorem HRep.left_list {w0 w1 : World} {hb : Nat} {L : Lay} {i : Nat} (hi : i < 5) {v' : Value} (c : Nat)
    (hf : Fr (fun k => (L.v i).ownBlock = some k) w0 w1) (hv : v'.ownBlock = (L.v i).ownBlock ∨ v'.ownBlock = none ∨ ∃ b, v'.ownBlock = some b ∧ w0.heap.size ≤ b) :
    Left hb L (L.set i v') w0 (w1.setCell ⟨hb, c, none⟩ v') := by
  refine ⟨(hf.mono fun k hk => ownBlock_foot hi hk).trans (fr_setCell w1 hb c v') (fun j hj => .inl (.inl hj)), ?_⟩
  intro k hk
  rcases hk with rfl | ⟨j, hj, hk⟩
  · exact .inl (.inl rfl)
  · by_cases e : j = i
    · subst e
      rw [Lay.set_same] at hk
      rcases hv with e | e | ⟨b, e, hle⟩
      · exact .inl (ownBlock_foot hj (by rw [← e]; exact hk))
      · rw [e] at hk; cases hk
      · rw [e] at hk; cases hk; exact .inr hle
    · rw [Lay.set_other _ _ e] at hk
      exact .inl (ownBlock_foot hj hk)

theorem left_setCell (w : World) (hb : Nat) (L : Lay) {b : Nat} (hb' : L.foot hb b) (k : Nat) (v : Value) : Left hb L L w (w.setCell ⟨b, k, none⟩ v) :=
  ⟨(fr_setCell w b k v).mono (fun j hj => by subst hj; exact hb'), fun _ h => .inl h⟩

theorem Left.of_heap {hb : Nat} {L L' : Lay} {w w0 w' : World} (h : Left hb L L' w0 w') (hh : w0.heap = w.heap) (h1 : w0.os = w.os) (h2 : w0.tape = w.tape) (h3 : w0.output = w.output) : Left hb L L' w w' := by
  refine ⟨⟨h.fr.os.trans h1, h.fr.tape.trans h2, h.fr.output.trans h3, by rw [← hh]; exact h.fr.size, ?_⟩, by rw [← hh]; exact h.foot⟩
  rw [← hh]; exact h.fr.block

/-- **copied**: the object at n is copied to the area now. -/
theorem copied_any {hb : Nat} {L : Lay} {s : HS} {w : World} (hr : HRep w hb L s) {r : Int} (hg : GoodRef s r) (hfit : r ≤ 4611686018427387904) (hsm : Small s) {n : Int} (hn : newest s r = n) (hat : AtObj s n)
    (hnow : s.now < 2) (hne : aOf n ≠ s.now) (hc : 0 ≤ s.copied ∧ s.copied ≤ 1000000000000) :
    Calls Try.prog 84 #[.pointer (some ⟨hb, 0, none⟩), .int .i64 r] w fun e w' => e = .returned (.int .i64 (enc s.now (s.ar s.now).length)) ∧
      ∃ L', HRep w' hb L' (copyTo s n (wordsAt s n)) ∧ Left hb L L' w w' ∧ (∀ i, i ≠ s.now → L'.v i = L.v i) ∧
        (∀ a m cap, L.v s.now = .slice a m cap → m + (wordsAt s n).length ≤ cap → L'.v s.now = .slice a (m + (wordsAt s n).length) cap) := by
  have HW : ∀ W : World, W.heap = w.heap → _ := fun W hW => words_any (w := W) (hr.of_heap hW) hg hfit hsm hn hat
  obtain ⟨v1, v4, v2, hpos, hsz, _⟩ := hat
  have hs1 : 1 ≤ sizeN (headAt s n) := by unfold sizeN; omega
  have v3 : pOf n < (s.ar (aOf n)).length := by omega
  obtain ⟨b, off, cap, e, h1, h2, h3⟩ := (hr.ar (aOf n) v2).get v3
  have hl := hsm.len _ v2
  obtain ⟨na, ncap, ne⟩ := (hr.ar s.now (by omega)).shape
  have hln := hsm.len s.now (by omega)
  have hwl : (wordsAt s n).length = sizeN (headAt s n) := by unfold wordsAt; simp; omega
  have hoa : (L.v (aOf n)).ownBlock = some b := by rw [e]; rfl
  have hbb : b ≠ hb := fun e' => hr.off _ (show aOf n < 5 by omega) (by rw [hoa, e'])
  have hto : 0 ≤ enc s.now (s.ar s.now).length ∧ enc s.now (s.ar s.now).length ≤ 9000000000000 := by unfold enc; omega
  have happ : ∀ W : World, W.heap = w.heap → ∀ ty, ∃ v' w', (Builtin.append_ #[35, 35] ty #[.slice na (s.ar s.now).length ncap, .slice (some ⟨b, off + pOf n, none⟩) (sizeN (headAt s n)) (sizeN (headAt s n))]).run Try.prog W = .ok v' w' ∧
      Appended W w' (.slice na (s.ar s.now).length ncap) v' (s.ar s.now) (wordsAt s n) := by
    intro W hW ty
    have hi := ((hr.ar s.now (by omega)).of_heap hW)
    rw [ne] at hi
    have := run_app hi (ad := ⟨b, off + pOf n, none⟩) (c := sizeN (headAt s n)) (ys := wordsAt s n) ty (fun j y hy => by
      have hj : j < sizeN (headAt s n) := by rw [← hwl]; exact (List.getElem?_eq_some_iff.1 hy).1
      have hadd : (⟨b, off + pOf n, none⟩ : Addr).add j = ⟨b, off + (pOf n + j), none⟩ := by unfold Addr.add; split <;> simp_all [Nat.add_assoc]
      rw [hadd, cell_of_heap (w := w) (by rw [hW]), h2 (pOf n + j) (by omega)]
      unfold wordsAt at hy
      rw [List.getElem?_take, if_pos hj, List.getElem?_drop] at hy
      rw [List.getD_eq_getElem?_getD, hy]; rfl) (by omega)
    rw [hwl] at this
    exact this
  have hcore := copied_core (w := w) (hb := hb) (now := s.now) (ln := (s.ar s.now).length) (z := sizeN (headAt s n)) (b := b) (off := off) (p := pOf n) (ncap := ncap) (r := r) (cp := s.copied)
    (to := enc s.now (s.ar s.now).length) (x0 := (s.ar (aOf n)).getD (pOf n) 0) (na := na) (xs := s.ar s.now) (ys := wordsAt s n)
    (fun W hW => by have := HW W hW; rw [e] at this; exact this) (fun W => reference_any _ _ _ (by omega) (by omega)) happ
    (by rw [← ne]; exact hr.off _ (by omega)) (by rw [← ne, ← hoa]; exact fun e' => (hr.apart (aOf n) s.now (by omega) (by omega) hne).elim (fun h => by rw [hoa] at h; cases h) (fun h => h e'.symm)) hbb
    hnow hs1 (by omega) hto hc.1 hc.2 (hr.cell rfl) (by rw [hr.area (by omega), ne]) (hr.cell rfl) (h2 _ v3) (fun k => by simp [World.frozen?, hr.blk])
    (by
      rcases hr.ar (aOf n) v2 with ⟨_, hz⟩ | ⟨b', off', cap', cs, e', hb', _⟩
      · rw [hz] at v3; simp at v3
      · rw [e] at e'; cases e'; simp [World.frozen?, hb'])
  refine hcore.mono ?_
  rintro e' w' ⟨rfl, v', w0, w1, g0, g1, g2, g3, ha, rfl⟩
  refine ⟨rfl, L.set s.now v', ?_, ?_, fun i hi => Lay.set_other _ _ hi, ?_⟩
  · have r0 := hr.of_heap g0
    have r1 := r0.list (i := s.now) (by omega) (v' := v') (l := s.ar s.now ++ wordsAt s n) ha.new (by rw [ne]; exact ha.fr) (by rw [ne]; exact ha.blk.elim .inl fun h => .inr (.inr h))
    rw [setSl_ar _ _ (by omega), cellOf_ar (by omega)] at r1
    have r2 := r1.put (i := aOf n) (by omega) (b := b) (off := off) (n := (s.ar (aOf n)).length) (cap := cap) (by rw [Lay.set_other _ _ hne, e]) (p := pOf n)
      (by rw [sl_ar _ v2, ar_setAr_other _ _ (by omega) v2 hne]; exact v3) (-(enc s.now (s.ar s.now).length))
    rw [setSl_ar _ _ v2, sl_ar _ v2, ar_setAr_other _ _ (by omega) v2 hne] at r2
    refine r2.scalar 2 _ ?_ ?_
    · rw [← hwl]; rfl
    · intro i hi; rfl
  · refine Left.of_heap ?_ g0 g1 g2 g3
    have l1 : Left hb L (L.set s.now v') w0 (w1.setCell ⟨hb, 8 + s.now, none⟩ v') := HRep.left_list (by omega) _ (by rw [ne]; exact ha.fr) (by rw [ne]; exact ha.blk.elim .inl fun h => .inr (.inr h))
    refine l1.trans (Left.trans (left_setCell _ hb _ ?_ _ _) (left_setCell _ hb _ (.inl rfl) _ _))
    exact ownBlock_foot (i := aOf n) (by omega) (by rw [Lay.set_other _ _ hne]; exact hoa)
  · intro a m cap' em hroom
    rw [Lay.set_same]
    rw [ne] at em
    cases em
    exact (ha.room _ _ _ rfl hroom).1
end Go.Proofs.Ythjokcjdphempaa
