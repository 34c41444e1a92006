/- What numbers the objects of a dump; slices.Clone. -/
import Derived.Test.YthjokcjdphempaaMake
namespace Go.Proofs.Ythjokcjdphempaa
open Go.RowKit Hp Go.Shelf

/-- The number of a reference in a dump. -/
def numOf (A : AHeap) (n : Nat) : Int := if n = 0 then 0 else (A.search.idxOf (n - 1) : Int) + 1

theorem numOf_at {A : AHeap} {m i : Nat} (h : A.search[i]? = some m) : numOf A (m + 1) = (i : Int) + 1 := by
  have hlt := (List.getElem?_eq_some_iff.1 h).1
  have he := (List.getElem?_eq_some_iff.1 h).2
  unfold numOf
  rw [if_neg (by omega), Nat.add_sub_cancel, ← he, List.Nodup.idxOf_getElem (search_nodup A)]

set_option maxRecDepth 100000 in
set_option maxHeartbeats 1000000 in
theorem number_core {nb hx hb mb : Nat} {x y z : Int} {w : World} (c1 : w.cell? ⟨nb, 0, none⟩ = some (.map (some mb))) (c2 : w.cell? ⟨hx, 0, none⟩ = some (.pointer (some ⟨hb, 0, none⟩)))
    (H44 : ∀ W : World, W.heap = w.heap → Calls Try.prog 44 #[.pointer (some ⟨hb, 0, none⟩), .int .i64 x] W fun e w' => e = .returned (.int .i64 z) ∧ W = w')
    (HL : ∀ W : World, W.heap = w.heap → (Instr.lookup 76 (.map (some mb)) (.int .i64 z) false).run Try.prog W = .ok (.int .i64 y) W) :
    Calls Try.prog 43 #[.int .i64 x, .pointer (some ⟨nb, 0, none⟩), .pointer (some ⟨hx, 0, none⟩)] w fun e w' => e = .returned (.int .i64 y) ∧ ∃ k, w' = w.drewN k := by
  have A44 := Lib.hid H44
  have AL := Lib.hid HL
  clear H44 HL
  go_enter Try.func43, Try.ntmps43
  go_wp2
  refine wp_region_z (fun W => W.heap = w.heap ∧ ∃ k, W = w.drewN k) 5 (by kernel_rfl) ?_
  have hS : (w.drew).heap = w.heap ∧ ∃ k, w.drew = w.drewN k := ⟨rfl, 1, rfl⟩
  refine anyZ_marks (fuel := 3) (a' := ?a1) [true, true, true, false, false, false] rfl hS (fun _ _ d _ _ h => by cases d <;> exact h) (by kernel_rfl) (fun W hW => ?_) ?_
  rotate_left
  · have s1 := (cell_of_heap (a := ⟨nb, 0, none⟩) (by rw [hW.1])).trans c1
    have s2 := (cell_of_heap (a := ⟨hx, 0, none⟩) (by rw [hW.1])).trans c2
    simp only [pick]
    repeat (go_big_quiet_step (fail))
    refine wpQuiet_nil ?_
    show _ = _
    with_reducible rfl
  refine anyZ_step 3 rfl (by kernel_rfl) rfl (fun K hK => ?_)
  go_simp
  go_at_call 44
  refine (A44.out w.drew rfl).mono ?_
  rintro e w' ⟨rfl, rfl⟩
  refine hK _ _ (.inr hS) ?_
  clear hK K
  refine anyZ_step 4 rfl (by kernel_rfl) rfl (fun K hK => ?_)
  refine wp_lookup_run 76 _ _ rfl rfl rfl (AL.out w.drew rfl) ?_
  refine hK _ _ (.inr hS) ?_
  clear hK K
  refine anyZ_step 5 rfl (by kernel_rfl) rfl (fun K hK => ?_)
  go_simp
  refine hK _ _ (.inl (by kernel_rfl)) ?_
  clear hK K hS
  refine anyZ_done (by kernel_rfl) ?_ _
  go_wp2
  go_ret
  exact ⟨rfl, 1, rfl⟩

theorem number_any {nb hx hb mb n : Nat} {x : Int} {w : World} {A : AHeap} {s : HS} {G : Areas} {φ : Nat → Int} {L : Lay} {D : Ptr → Prop} (hr : HRep w hb L s) (hi : Rep D s G φ A) (hsm : Small s)
    (c1 : w.cell? ⟨nb, 0, none⟩ = some (.map (some mb))) (c2 : w.cell? ⟨hx, 0, none⟩ = some (.pointer (some ⟨hb, 0, none⟩))) (hm : IsMap w mb (A.search.map φ) (fun i => .int .i64 ((i : Int) + 1)))
    (hrf : RefOk G φ s.now x n) (hn : ∀ m, n = m + 1 → Hp.Reach A m) :
    Calls Try.prog 43 #[.int .i64 x, .pointer (some ⟨nb, 0, none⟩), .pointer (some ⟨hx, 0, none⟩)] w fun e w' => e = .returned (.int .i64 (numOf A n)) ∧ ∃ k, w' = w.drewN k := by
  obtain ⟨g1, g2⟩ := hi.newest_ok hrf hn
  have hfit : x ≤ 4611686018427387904 := by
    rcases g2 with h | ⟨h1, h2, h3, _⟩
    · omega
    · exact ref_small hsm h1 h2 h3
  refine number_core c1 c2 (z := phi φ n) (fun W hW => ?_) (fun W hW => ?_)
  · have := newest_any (w := W) (hr.of_heap hW) g2 hfit hsm
    rw [g1] at this
    exact this
  · have hm' : IsMap W mb (A.search.map φ) (fun i => .int .i64 ((i : Int) + 1)) := hm.of_block (by rw [hW])
    obtain ⟨l1, l2⟩ := run_lookup_ints Try.underlying76 (Try.zeroValue3 W) hm' (phi φ n)
    cases n with
    | zero =>
      have hno : phi φ 0 ∉ A.search.map φ := by
        intro h
        obtain ⟨m, hm, e⟩ := List.mem_map.1 h
        have := hi.pos ((mem_search hi.wf).1 hm)
        simp only [phi] at e
        omega
      exact l1 hno
    | succ m =>
      have hre := hn m rfl
      obtain ⟨i, hi'⟩ := List.mem_iff_getElem?.1 ((mem_search hi.wf).2 hre)
      obtain ⟨j, hj, hl⟩ := l2 i (by rw [List.getElem?_map, hi']; rfl)
      rw [List.getElem?_map] at hj
      cases hq : A.search[j]? with
      | none => rw [hq] at hj; cases hj
      | some m' =>
        rw [hq] at hj
        have hmm : m' = m := hi.inj m' m ((mem_search hi.wf).1 (List.mem_of_getElem? hq)) hre (by simpa [phi] using hj)
        subst hmm
        rw [numOf_at hq]
        exact hl

set_option maxRecDepth 100000 in
set_option maxHeartbeats 1000000 in
/-- **slices.Clone**. -/
theorem clone_any {a : Addr} {n c : Nat} {w : World} {ys : List Int} (hl : ys.length = n) (hn : ∀ (W : World), (∀ k, k < w.heap.size → W.heap[k]? = w.heap[k]?) → ∀ j y, ys[j]? = some y → W.cell? (a.add j) = some (.int .i64 y)) (hlim : n ≤ 1000000) :
    Calls Try.prog 48 #[.slice (some a) n c] w fun e w' => ∃ ra rn rc, e = .returned (.slice ra rn rc) ∧ IsSl w' (.slice ra rn rc) ys ∧ Fr (fun _ => False) w w' ∧ ∀ k, (Value.slice ra rn rc).ownBlock = some k → w.heap.size ≤ k := by
  subst hl
  have h0 : IsSl (w.alloc (.cells #[] 3)) (.slice (some ⟨w.heap.size, 0, none⟩) 0 0) [] := .inr ⟨w.heap.size, 0, 0, [], rfl, World.alloc_heap_new w _, by simp, by simp, by simp, rfl⟩
  obtain ⟨v', w', hr, ha⟩ := run_app (w := w.alloc (.cells #[] 3)) h0 (ad := a) (c := c) (ys := ys) 35 (hn _ (fun k hk => Below.heap_alloc w _ k hk)) (by simp; omega)
  obtain ⟨ra, rc, hv⟩ := ha.new.shape
  rw [List.nil_append] at hv
  rw [hv] at hr
  have HR := Lib.hid hr
  have HA := Lib.hid ha
  have HV := Lib.hid hv
  clear hr ha h0 hn hv
  have heq : ∀ (m : Nat) (W : World), (binOp BinOp.eql 35 (.slice (some a) m c) (.slice none 0 0)).run Try.prog W = .ok (.bool false) W := fun _ _ => by kernel_rfl
  go_enter Try.func48, Try.ntmps48
  go_wp2_with (at_builtin; refine Lib.wpList_append_run _ rfl _ _ _ _ rfl _ _ rfl rfl _ _ HR.out ?_)
  go_ret
  have hA := HA.out
  have hV := HV.out
  refine ⟨ra, _, rc, rfl, by rw [← hV]; exact hA.new, ?_, ?_⟩
  · refine ⟨hA.fr.os, hA.fr.tape, hA.fr.output, by have := hA.fr.size; simp at this; omega, fun k hk _ => ?_⟩
    rw [hA.fr.block k (by simp; omega) (fun e => by simp [Value.ownBlock] at e; omega)]
    exact Below.heap_alloc w _ k hk
  · intro k hk
    rw [← hV] at hk
    rcases hA.blk with h | ⟨b, h, hle⟩
    · rw [h] at hk; simp [Value.ownBlock] at hk; omega
    · rw [h] at hk; cases hk; simp at hle; omega
end Go.Proofs.Ythjokcjdphempaa
