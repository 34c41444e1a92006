/- Same, of two dumps that are alike. -/
import Derived.Test.YthjokcjdphempaaSl
namespace Go.Proofs.Ythjokcjdphempaa
open Go.RowKit Hp Go.Shelf

set_option maxRecDepth 100000 in
set_option maxHeartbeats 1000000 in
theorem same_eq {w : World} {a1 a2 : Option Addr} {k1 k2 n : Nat} {xs : List Int} (hl : xs.length = n) (h1 : IsSl w (.slice a1 n k1) xs) (h2 : IsSl w (.slice a2 n k2) xs) (hn : n ≤ 1000000) :
    Calls Try.prog 53 #[.slice a1 n k1, .slice a2 n k2] w fun e w' => e = .returned (.bool true) ∧ ∃ k, w' = w.drewN k := by
  subst hl
  have H1 := Lib.hid h1
  have H2 := Lib.hid h2
  clear h1 h2
  go_enter Try.func53, Try.ntmps53
  go_wp2
  go_loopw [5] (fun t wr => ∃ i : Nat, t = .int .i64 i ∧ i ≤ xs.length ∧ ∃ k, wr = w.drewN k) (fun t _ => xs.length - (intOf t).toNat)
  case atStart => exact ⟨0, rfl, Nat.zero_le _, 0, rfl⟩
  case round =>
    obtain ⟨i, rfl, hi, k, rfl⟩ := hrel
    by_cases hlt : i < xs.length
    · obtain ⟨b, off, c, e1, l1, l2, _⟩ := (H1.out.of_block (w' := w.drewN k) fun _ _ => rfl).get hlt
      obtain ⟨b', off', c', e2, m1, m2, _⟩ := (H2.out.of_block (w' := w.drewN k) fun _ _ => rfl).get hlt
      cases e1
      cases e2
      have q1 := l2 i hlt
      have q2 := m2 i hlt
      obtain ⟨x, hx⟩ : ∃ x, x = xs.getD i 0 := ⟨_, rfl⟩
      rw [← hx] at q1 q2
      obtain ⟨W, hW⟩ : ∃ W, W = w.drewN k := ⟨_, rfl⟩
      rw [← hW] at q1 q2 ⊢
      have HW := Lib.hid hW
      clear hW hx l2 m2
      obtain ⟨n, hn'⟩ : ∃ n, n = xs.length := ⟨_, rfl⟩
      have HN := Lib.hid hn'
      rw [← hn'] at hlt hn hi l1 m1 ⊢
      clear hn'
      go_wp2
      go_quiet (fail)
      go_wp2
      go_roundw
      case rel => exact ⟨i + 1, by go_num, by omega, k + nq, by rw [HW.out, World.drewN_drewN]⟩
      case measure => simp [intOf]; omega
    · go_wp2
      go_ret
      exact ⟨rfl, k, rfl⟩

theorem Fr.drewN {B : Nat → Prop} {w w' : World} (h : Fr B w w') (n : Nat) : Fr B w (w'.drewN n) := ⟨h.os, h.tape, h.output, h.size, h.block⟩

/-- The objects of a dump. -/
def ObjL (W : World) (ov : Value) (O : List (Int × List Int × List Int)) : Prop :=
  (O = [] ∧ ∃ a c, ov = .slice a 0 c) ∨ ∃ b c, ov = .slice (some ⟨b, 0, none⟩) O.length c ∧ O.length ≤ c ∧ ∀ i t rs ws, O[i]? = some (t, rs, ws) → ∃ a1 k1 a2 k2, W.cell? ⟨b, i * 3, none⟩ = some (.int .i64 t) ∧
    W.cell? ⟨b, i * 3 + 1, none⟩ = some (.slice a1 rs.length k1) ∧ W.cell? ⟨b, i * 3 + 2, none⟩ = some (.slice a2 ws.length k2) ∧ IsSl W (.slice a1 rs.length k1) rs ∧ IsSl W (.slice a2 ws.length k2) ws ∧ rs.length ≤ 1000000 ∧ ws.length ≤ 1000000

theorem ObjL.shape {W : World} {ov : Value} {O : List (Int × List Int × List Int)} (h : ObjL W ov O) : ∃ a c, ov = .slice a O.length c := by
  rcases h with ⟨rfl, a, c, rfl⟩ | ⟨b, c, rfl, _⟩
  · exact ⟨a, c, rfl⟩
  · exact ⟨_, c, rfl⟩

theorem ObjL.of_fr {W W' : World} {ov : Value} {O : List (Int × List Int × List Int)} (h : ObjL W ov O) (hf : Fr (fun _ => False) W W') : ObjL W' ov O := by
  rcases h with h | ⟨b, c, e, h1, h2⟩
  · exact .inl h
  · refine .inr ⟨b, c, e, h1, fun i t rs ws hi => ?_⟩
    obtain ⟨a1, k1, a2, k2, q1, q2, q3, q4, q5, q6⟩ := h2 i t rs ws hi
    exact ⟨a1, k1, a2, k2, fr_cell hf q1 id, fr_cell hf q2 id, fr_cell hf q3 id, q4.of_block fun k hk => hf.block k (q4.lt hk) id, q5.of_block fun k hk => hf.block k (q5.lt hk) id, q6⟩

set_option maxRecDepth 100000 in
set_option maxHeartbeats 2000000 in
theorem Same_eq {w : World} {a1 a2 a3 a4 : Option Addr} {k1 k2 k3 k4 n : Nat} {xs : List Int} {O : List (Int × List Int × List Int)} (hl : xs.length = n) (h1 : IsSl w (.slice a1 n k1) xs) (h2 : IsSl w (.slice a2 n k2) xs) (hn : n ≤ 1000000) (hO : O.length ≤ 1000000)
    (g1 : ObjL w (.slice a3 O.length k3) O) (g2 : ObjL w (.slice a4 O.length k4) O) :
    Calls Try.prog 16 #[.agg #[.slice a1 n k1, .slice a3 O.length k3], .agg #[.slice a2 n k2, .slice a4 O.length k4]] w fun e w' => e = .returned (.bool true) ∧ Fr (fun _ => False) w w' := by
  have H53 := Lib.hid (fun (W : World) (hf : Fr (fun _ => False) w W) => same_eq (w := W) hl (h1.of_block fun k hk => hf.block k (h1.lt hk) id) (h2.of_block fun k hk => hf.block k (h2.lt hk) id) hn)
  have F0 : Fr (fun _ => False) w ((w.alloc (.cells #[.slice a1 n k1, .slice a3 O.length k3] 38)).alloc (.cells #[.slice a2 n k2, .slice a4 O.length k4] 38)) := (fr_alloc1 _ _).trans (fr_alloc1 _ _) fun _ h => h.elim
  have HF := Lib.hid F0
  have HG1 := Lib.hid g1
  have HG2 := Lib.hid g2
  obtain ⟨N, hN⟩ : ∃ N, N = O.length := ⟨_, rfl⟩
  have HN := Lib.hid hN
  rw [← hN] at hO HF HG1 HG2 ⊢
  clear h1 h2 g1 g2 F0 hN hl
  go_enter Try.func16, Try.ntmps16
  go_wp2_with (go_at_call 53; refine (H53.out _ HF.out).mono ?_; rintro e w1 ⟨rfl, k, rfl⟩)
  go_loopw [5] (fun t wr => ∃ i : Nat, t = .int .i64 i ∧ i ≤ N ∧ Fr (fun _ => False) ((w.alloc (.cells #[.slice a1 n k1, .slice a3 N k3] 38)).alloc (.cells #[.slice a2 n k2, .slice a4 N k4] 38)) wr) (fun t _ => N - (intOf t).toNat)
  case atStart => exact ⟨0, rfl, Nat.zero_le _, ⟨rfl, rfl, rfl, Nat.le_refl _, fun _ _ _ => rfl⟩⟩
  case round =>
    obtain ⟨i, rfl, hi, hf⟩ := hrel
    have hb1 : wr.heap[w.heap.size]? = some (.cells #[.slice a1 n k1, .slice a3 N k3] 38 (0, 0)) := by
      rw [hf.block _ (by simp; omega) id, Below.heap_alloc _ _ _ (by simp)]; exact World.alloc_heap_new w _
    have hb2 : wr.heap[w.heap.size + 1]? = some (.cells #[.slice a2 n k2, .slice a4 N k4] 38 (0, 0)) := by
      rw [hf.block _ (by simp) id]
      have := World.alloc_heap_new (w.alloc (.cells #[.slice a1 n k1, .slice a3 N k3] 38)) (.cells #[.slice a2 n k2, .slice a4 N k4] 38)
      simpa using this
    have p1 : wr.cell? ⟨w.heap.size, 1, none⟩ = some (.slice a3 N k3) := by simp [World.cell?, hb1]
    have p2 : wr.cell? ⟨w.heap.size + 1, 1, none⟩ = some (.slice a4 N k4) := by simp [World.cell?, hb2]
    clear hb1 hb2
    by_cases hlt : i < N
    · have hW := HF.out.trans hf fun _ h => h.elim
      have hiO : i < O.length := by rw [← HN.out]; exact hlt
      obtain ⟨⟨t, rs, ws⟩, ho⟩ : ∃ o, O[i]? = some o := ⟨_, List.getElem?_eq_getElem hiO⟩
      have G1 := HG1.out.of_fr hW
      have G2 := HG2.out.of_fr hW
      rcases G1 with ⟨e, _⟩ | ⟨b, c, e1, hc1, hb1⟩
      · rw [e] at hiO; simp at hiO
      rcases G2 with ⟨e, _⟩ | ⟨b', c', e2, hc2, hb2⟩
      · rw [e] at hiO; simp at hiO
      have hNN := HN.out
      rw [← hNN] at e1 e2 hc1 hc2
      cases e1
      cases e2
      obtain ⟨u1, v1, u2, v2, q1, q2, q3, q4, q5, q6, q7⟩ := hb1 i t rs ws ho
      obtain ⟨u3, v3, u4, v4, r1, r2, r3, r4, r5, _, _⟩ := hb2 i t rs ws ho
      have K1 := Lib.hid (fun (W : World) (hf' : Fr (fun _ => False) wr W) => same_eq (w := W) rfl (q4.of_block fun k hk => hf'.block k (q4.lt hk) id) (r4.of_block fun k hk => hf'.block k (r4.lt hk) id) q6)
      have K2 := Lib.hid (fun (W : World) (hf' : Fr (fun _ => False) wr W) => same_eq (w := W) rfl (q5.of_block fun k hk => hf'.block k (q5.lt hk) id) (r5.of_block fun k hk => hf'.block k (r5.lt hk) id) q7)
      have hlb' := World.block_lt_of_cell? _ _ r1
      have hlw := World.block_lt_of_cell? _ _ p2
      have r1' := alloc_cell r1 (.cells #[.int .i64 t, .slice u1 rs.length v1, .slice u2 ws.length v2] 67)
      have r2' := alloc_cell r2 (.cells #[.int .i64 t, .slice u1 rs.length v1, .slice u2 ws.length v2] 67)
      have r3' := alloc_cell r3 (.cells #[.int .i64 t, .slice u1 rs.length v1, .slice u2 ws.length v2] 67)
      have p2' := alloc_cell p2 (.cells #[.int .i64 t, .slice u1 rs.length v1, .slice u2 ws.length v2] 67)
      have hXY : ∀ W : World, (∃ k, W = ((wr.alloc (.cells #[.int .i64 t, .slice u1 rs.length v1, .slice u2 ws.length v2] 67)).alloc (.cells #[.int .i64 t, .slice u3 rs.length v3, .slice u4 ws.length v4] 67)).drewN k) →
          W.cell? ⟨wr.heap.size, 2, none⟩ = some (.slice u2 ws.length v2) ∧ W.cell? ⟨wr.heap.size + 1, 2, none⟩ = some (.slice u4 ws.length v4) ∧ Fr (fun _ => False) wr W := by
        rintro W ⟨k, rfl⟩
        have b1 : ((wr.alloc (.cells #[.int .i64 t, .slice u1 rs.length v1, .slice u2 ws.length v2] 67)).alloc (.cells #[.int .i64 t, .slice u3 rs.length v3, .slice u4 ws.length v4] 67)).heap[wr.heap.size]? = some (.cells #[.int .i64 t, .slice u1 rs.length v1, .slice u2 ws.length v2] 67 (0, 0)) := by
          rw [Below.heap_alloc _ _ _ (by simp)]; exact World.alloc_heap_new wr _
        have b2 : ((wr.alloc (.cells #[.int .i64 t, .slice u1 rs.length v1, .slice u2 ws.length v2] 67)).alloc (.cells #[.int .i64 t, .slice u3 rs.length v3, .slice u4 ws.length v4] 67)).heap[wr.heap.size + 1]? = some (.cells #[.int .i64 t, .slice u3 rs.length v3, .slice u4 ws.length v4] 67 (0, 0)) := by
          have := World.alloc_heap_new (wr.alloc (.cells #[.int .i64 t, .slice u1 rs.length v1, .slice u2 ws.length v2] 67)) (.cells #[.int .i64 t, .slice u3 rs.length v3, .slice u4 ws.length v4] 67)
          simpa using this
        refine ⟨?_, ?_, ((fr_alloc1 _ _).trans (fr_alloc1 _ _) fun _ h => h.elim).drewN k⟩
        · refine (cell_of_heap (w := (wr.alloc (.cells #[.int .i64 t, .slice u1 rs.length v1, .slice u2 ws.length v2] 67)).alloc (.cells #[.int .i64 t, .slice u3 rs.length v3, .slice u4 ws.length v4] 67)) rfl).trans ?_
          simp only [World.cell?, b1]; rfl
        · refine (cell_of_heap (w := (wr.alloc (.cells #[.int .i64 t, .slice u1 rs.length v1, .slice u2 ws.length v2] 67)).alloc (.cells #[.int .i64 t, .slice u3 rs.length v3, .slice u4 ws.length v4] 67)) rfl).trans ?_
          simp only [World.cell?, b2]; rfl
      have HXY := Lib.hid hXY
      clear hXY
      have Hf := Lib.hid hf
      clear hb1 hb2 q4 q5 r4 r5 hf hW hNN ho
      go_wp2_with (go_at_call 53; first | (refine (K2.out w5 HF5.out).mono ?_; rintro e w6 ⟨rfl, k6, rfl⟩) | (refine (K1.out _ ((fr_alloc1 _ _).trans (fr_alloc1 _ _) fun _ h => h.elim)).mono ?_; rintro e w5 ⟨rfl, hk5⟩; obtain ⟨z1, z2, hf5⟩ := HXY.out w5 hk5; have HF5 := Lib.hid hf5; clear hk5 hf5))
      go_roundw
      case rel => exact ⟨i + 1, by go_num, by omega, Hf.out.trans (HF5.out.drewN _) fun _ h => h.elim⟩
      case measure => simp [intOf]; omega
    · have Hf := Lib.hid hf
      clear hf
      go_wp2
      go_ret
      exact ⟨rfl, HF.out.trans Hf.out fun _ h => h.elim⟩
end Go.Proofs.Ythjokcjdphempaa
