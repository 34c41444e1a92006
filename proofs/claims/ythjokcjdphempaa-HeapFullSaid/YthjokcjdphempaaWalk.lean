/- The walk through (*Heap).walk: all reachable objects, in the order of a search. -/
import Derived.Test.YthjokcjdphempaaLoop
namespace Go.Proofs.Ythjokcjdphempaa
open Go.RowKit Hp

attribute [local go_sem] Oper.semAt_some

theorem pointers_any {hb B2 : Nat} (w : World) : Calls Try.prog 78 #[.pointer (some ⟨hb, 0, none⟩), .pointer (some ⟨B2, 0, none⟩)] w fun e w' =>
    e = .returned (.func (.func 86) #[] #[.pointer (some ⟨w.heap.size, 0, none⟩), .pointer (some ⟨w.heap.size + 1, 0, none⟩)]) ∧
      w' = (w.alloc (.cells #[.pointer (some ⟨hb, 0, none⟩)] 23)).alloc (.cells #[.pointer (some ⟨B2, 0, none⟩)] 95) := by
  go_enter Try.func78, Try.ntmps78
  go_wp2
  go_ret
  exact ⟨rfl, rfl⟩

/-- The world at the loop. -/
def walkWorld (hb g : Nat) (lb : Array Value) (w : World) : World :=
  (((((((w.alloc (.cells #[.pointer (some ⟨hb, 0, none⟩)] 23)).alloc (.cells #[.func (.func g) #[] lb] 78)).alloc (.cells #[.slice none 0 0] 35)).alloc (.map #[] 0)).alloc
    (.cells #[.map (some (w.heap.size + 1 + 1 + 1))] 91)).alloc (.cells #[.pointer (some ⟨hb, 0, none⟩)] 23)).alloc (.cells #[.pointer (some ⟨w.heap.size + 1 + 1, 0, none⟩)] 95))

set_option linter.unusedSimpArgs false in
set_option maxRecDepth 100000 in
set_option maxHeartbeats 1000000 in
theorem walk_core {hb g : Nat} {lb : Array Value} {w : World} {F : World → Prop} {lv : World → Value}
    (H : ∀ fn (W1 : World) (lr : LoopState → Option Code → Loop), W1 = ((walkWorld hb g lb w).alloc (.deferred (some []))).alloc (.loop (lr .ready none)) →
      (∀ st pe, lr st pe = { state := st, pending := pe, fn := fn, tmps := #[.pointer (some ⟨hb, 0, none⟩), .func (.func g) #[] lb, .pointer (some ⟨w.heap.size, 0, none⟩), .pointer (some ⟨w.heap.size + 1, 0, none⟩), .slice none 0 0, .pointer (some ⟨w.heap.size + 1 + 1, 0, none⟩),
        .pointer (some ⟨w.heap.size + 1 + 1 + 1 + 1, 0, none⟩), undef, .map (some (w.heap.size + 1 + 1 + 1)), .pointer (some ⟨hb, 0, none⟩),
        .func (.func 86) #[] #[.pointer (some ⟨w.heap.size + 1 + 1 + 1 + 1 + 1, 0, none⟩), .pointer (some ⟨w.heap.size + 1 + 1 + 1 + 1 + 1 + 1, 0, none⟩)], undef] ++ Array.replicate 30 undef, params := #[11], assign := walkAssign, body := walkBody, defers := w.heap.size + 7 }) →
      Calls Try.prog 86 #[.func (.yield (w.heap.size + 8)) #[] #[], .pointer (some ⟨w.heap.size + 1 + 1 + 1 + 1 + 1, 0, none⟩), .pointer (some ⟨w.heap.size + 1 + 1 + 1 + 1 + 1 + 1, 0, none⟩)] W1 fun e w' => e = .returned (.tuple #[]) ∧
        w'.heap[w.heap.size + 8]? = some (.loop (lr .ready none)) ∧ w'.heap[w.heap.size + 7]? = some (.deferred (some [])) ∧ w'.cell? ⟨w.heap.size + 1 + 1, 0, none⟩ = some (lv w') ∧
        F w') :
    Calls Try.prog 41 #[.pointer (some ⟨hb, 0, none⟩), .func (.func g) #[] lb] w fun e w' => ∃ w2 lr, e = .returned (lv w2) ∧ F w2 ∧ w' = (w2.putObj (w.heap.size + 8) (.loop lr)).putObj (w.heap.size + 7) (.deferred none) := by
  have hmm := @run_makeMap Try.prog
  have HH := Lib.hid H
  clear H
  refine (callsIn_wide (n := 1)).1 ?_
  refine callsIn_of_wp_marks Try.func41 rfl trivial ?_ rfl
  simp only [Try.ntmps41, List.size_toArray, List.length_cons, List.length_nil, Nat.reduceAdd, Nat.reduceSub, Array.replicate_succ, Array.replicate_zero, List.push_toArray, List.append_toArray, List.nil_append, List.cons_append]
  gi_wp2_with (refine ⟨trivial, ?_⟩; gi_at_call 78; refine (callsIn_wide.2 (pointers_any _)).mono ?_; rintro e w' ⟨rfl, rfl⟩)
  change Code.wpIn _ _ _ (Code.rangeFunc (.tmp 10) #[11] walkAssign walkBody) _ _ (walkWorld hb g lb w)
  refine wpIn_rangeFunc ?_
  intro fn _
  obtain ⟨W5, hW5⟩ : ∃ W5, W5 = walkWorld hb g lb w := ⟨_, rfl⟩
  have hsz : W5.heap.size = w.heap.size + 7 := by rw [hW5]; simp [walkWorld]
  rw [← hW5]
  obtain ⟨tm, htm⟩ : ∃ tm : Array Value, tm = #[.pointer (some ⟨hb, 0, none⟩), .func (.func g) #[] lb, .pointer (some ⟨w.heap.size, 0, none⟩), .pointer (some ⟨w.heap.size + 1, 0, none⟩), .slice none 0 0, .pointer (some ⟨w.heap.size + 1 + 1, 0, none⟩),
        .pointer (some ⟨w.heap.size + 1 + 1 + 1 + 1, 0, none⟩), undef, .map (some (w.heap.size + 1 + 1 + 1)), .pointer (some ⟨hb, 0, none⟩),
        .func (.func 86) #[] #[.pointer (some ⟨w.heap.size + 1 + 1 + 1 + 1 + 1, 0, none⟩), .pointer (some ⟨w.heap.size + 1 + 1 + 1 + 1 + 1 + 1, 0, none⟩)], undef] ++ Array.replicate 30 undef := ⟨_, rfl⟩
  have htm' := htm
  simp only [List.size_toArray, List.length_cons, List.length_nil, Nat.reduceAdd, Nat.reduceSub, Array.replicate_succ, Array.replicate_zero, List.push_toArray, List.append_toArray, List.nil_append, List.cons_append] at htm'
  obtain ⟨lr, hlr⟩ : ∃ lr : LoopState → Option Code → Loop, lr = fun st pe => { state := st, pending := pe, fn := fn, tmps := tm, params := #[11], assign := walkAssign, body := walkBody, defers := w.heap.size + 7 } := ⟨_, rfl⟩
  obtain ⟨W1, hW1⟩ : ∃ W1, W1 = (W5.alloc (.deferred (some []))).alloc (.loop (lr .ready none)) := ⟨_, rfl⟩
  refine ⟨w.heap.size + 8, [{ target := .collected (w.heap.size + 7), args := #[] }], W1, { target := .fn (.func 86) #[.pointer (some ⟨w.heap.size + 1 + 1 + 1 + 1 + 1, 0, none⟩), .pointer (some ⟨w.heap.size + 1 + 1 + 1 + 1 + 1 + 1, 0, none⟩)], args := #[.func (.yield (w.heap.size + 8)) #[] #[]] }, W1, 86,
    #[.func (.yield (w.heap.size + 8)) #[] #[], .pointer (some ⟨w.heap.size + 1 + 1 + 1 + 1 + 1, 0, none⟩), .pointer (some ⟨w.heap.size + 1 + 1 + 1 + 1 + 1 + 1, 0, none⟩)], W1, ?_, ?_, fun _ _ => trivial, ?_, fun h => (by cases h), ?_⟩
  · have := run_enterLoop_outer (P := Try.prog) (w := W5) fn tm #[11] walkAssign walkBody
    rw [hsz] at this
    rw [hW1, hlr, ← htm']
    exact this
  · simp [resolve, go_sem]
  · simp [invoke, go_sem]
  · have hc := HH.out fn W1 lr (by rw [hW1, hW5]) (fun st pe => by rw [hlr, htm])
    have hid := Lib.hid hlr
    have hid2 := Lib.hid hW1
    clear hlr htm htm' hW1 hW5
    refine (callsIn_wide.2 hc).mono ?_
    rintro e w2 ⟨rfl, k8, k7, k2, hF⟩
    have hrun := run_endLoop (P := Try.prog) k8 (by rw [hid.out]; simp)
    rw [hid.out] at hrun
    refine ⟨none, _, hrun, ?_⟩
    have k2' : ∀ o, (w2.putObj (w.heap.size + 8) o).cell? ⟨w.heap.size + 1 + 1, 0, none⟩ = some (lv w2) := fun o => (cell_of_heap (World.putObj_heap_other (by show w.heap.size + 1 + 1 ≠ w.heap.size + 8; omega))).trans k2
    have k7' : ∀ o, (w2.putObj (w.heap.size + 8) o).heap[w.heap.size + 7]? = some (.deferred (some [])) := fun o => (World.putObj_heap_other (by omega)).trans k7
    obtain ⟨o, ho⟩ : ∃ o : Loop, o = { state := .exhausted, pending := none, fn := fn, tmps := tm, params := #[11], assign := walkAssign, body := walkBody, defers := w.heap.size + 7 } := ⟨_, rfl⟩
    show Exit.inBlock 0 _ _ _ (w2.putObj (w.heap.size + 8) (.loop { state := .exhausted, pending := none, fn := fn, tmps := tm, params := #[11], assign := walkAssign, body := walkBody, defers := w.heap.size + 7 })) 
    rw [← ho]
    have k3 := k2' (.loop o)
    have k9 := k7' (.loop o)
    clear k2 k7 k8 hrun k2' k7' ho
    gi_wp2
    refine ⟨by simp, .inl ⟨_, _, rfl, run_takeDeferred k9, ?_⟩⟩
    exact ⟨_, results_tmp rfl _ _ _, w2, o, rfl, hF, rfl⟩

theorem alloc_get (w : World) (o : Obj) (k : Nat) : (w.alloc o).heap[k]? = if k = w.heap.size then some o else w.heap[k]? := by
  show (w.heap.push o)[k]? = _
  rw [Array.getElem?_push]

/-- What a walk starts from, at a world. -/
def envAt (hb g : Nat) (lb : Array Value) (A : AHeap) (mv : Option Nat) (quiet : Prop) (s : HS) (G : Areas) (φ : Nat → Int) (L : Lay) (w : World) : WEnv :=
  { hb := hb, B := w.heap.size, g := g, lb := lb, A := A, mv := mv, quiet := quiet, s0 := s, G0 := G, φ0 := φ, L0 := L, w0 := w }


set_option maxHeartbeats 1000000 in
/-- **walk**: all reachable objects, in the order of a search. -/
theorem walk_any {hb g : Nat} {lb : Array Value} {A : AHeap} {mv : Option Nat} {quiet : Prop} {s : HS} {G : Areas} {φ : Nat → Int} {L : Lay} {w : World} (hr : HRep w hb L s)
    (hi : WInv A mv quiet s G φ (fun _ => False) [] s G φ) (hsm : ∀ k, k < 3 → (s.ar k).length ≤ 200000000000) (hc : A.objs.length ≤ 900000000000) (hn : A.slots.length ≤ 1000000000000) (ha : ∀ a, mv = some a → a < 3)
    (hM : MoveOk (envAt hb g lb A mv quiet s G φ L w)) (hg : ∀ args w, (callFunc g args).run Try.prog w = .ok (.enter g args) w) :
    Calls Try.prog 41 #[.pointer (some ⟨hb, 0, none⟩), .func (.func g) #[] lb] w fun e w' => ∃ L' s' G' φ' lv, e = .returned lv ∧ HRep w' hb L' s' ∧ WInv A mv quiet s G φ (DF A) A.search s' G' φ' ∧
      (∀ i, i < 5 → SameBase (L.v i) (L'.v i)) ∧ Fr (L.foot hb) w w' ∧ IsSl w' lv (A.search.map φ') ∧ ∀ k, lv.ownBlock = some k → w.heap.size ≤ k := by
  obtain ⟨E, hEe⟩ : ∃ E, E = envAt hb g lb A mv quiet s G φ L w := ⟨_, rfl⟩
  have hE : E.Ok := by rw [hEe]; exact ⟨rfl, fun k hk => hr.lt hk, hsm, hc, hn, ha⟩
  rw [← hEe] at hM
  refine (walk_core (F := fun w' => ∃ fn L s G φ lv, WSt E (walkLoop E fn .ready) (DF E.A) E.A.search w' L s G φ lv) (lv := fun w' => (w'.cell? ⟨w.heap.size + 1 + 1, 0, none⟩).getD undef) ?_).mono ?_
  · intro fn W1 lr hW1 hlr
    have hl : lr .ready none = walkLoop E fn .ready := by rw [hlr, hEe]; rfl
    have hst : WSt E (walkLoop E fn .ready) (fun _ => False) [] W1 L s G φ (.slice none 0 0) := by
      have hold : ∀ k, k < w.heap.size → W1.heap[k]? = w.heap[k]? := by
        intro k hk
        rw [hW1]
        simp only [walkWorld]
        repeat (rw [alloc_get, if_neg (by (try simp only [World.size_alloc]); omega)])
      have hf : Fr (fun _ => False) w W1 := ⟨by rw [hW1]; rfl, by rw [hW1]; rfl, by rw [hW1]; rfl, by rw [hW1]; simp [walkWorld]; omega, fun k hk _ => hold k hk⟩
      subst hEe
      refine ⟨hr.of_fr hf (fun _ _ h => h), hi, fun i hi' => ?_, hf.mono fun _ h => h.elim, ?_⟩
      · obtain ⟨a, c, e⟩ := (hr.sl i hi').shape
        exact ⟨a, _, _, c, e, e⟩
      · rw [hl] at hW1
        subst hW1
        exact {
          b0 := by (simp only [walkWorld, envAt]; repeat (first | rw [alloc_get, if_neg (by (try simp only [World.size_alloc]); omega)] | rw [alloc_get, if_pos (by first | rfl | (simp only [World.size_alloc]; done) | (simp only [World.size_alloc]; omega))]))
          b1 := by (simp only [walkWorld, envAt]; repeat (first | rw [alloc_get, if_neg (by (try simp only [World.size_alloc]); omega)] | rw [alloc_get, if_pos (by first | rfl | (simp only [World.size_alloc]; done) | (simp only [World.size_alloc]; omega))]))
          b2 := by (simp only [walkWorld, envAt]; repeat (first | rw [alloc_get, if_neg (by (try simp only [World.size_alloc]); omega)] | rw [alloc_get, if_pos (by first | rfl | (simp only [World.size_alloc]; done) | (simp only [World.size_alloc]; omega))]))
          b3 := ⟨#[], 0, by (simp only [walkWorld, envAt]; repeat (first | rw [alloc_get, if_neg (by (try simp only [World.size_alloc]); omega)] | rw [alloc_get, if_pos (by first | rfl | (simp only [World.size_alloc]; done) | (simp only [World.size_alloc]; omega))])), rfl, fun i x h => by simp at h⟩
          b4 := by (simp only [walkWorld, envAt]; repeat (first | rw [alloc_get, if_neg (by (try simp only [World.size_alloc]); omega)] | rw [alloc_get, if_pos (by first | rfl | (simp only [World.size_alloc]; done) | (simp only [World.size_alloc]; omega))]))
          b5 := by (simp only [walkWorld, envAt]; repeat (first | rw [alloc_get, if_neg (by (try simp only [World.size_alloc]); omega)] | rw [alloc_get, if_pos (by first | rfl | (simp only [World.size_alloc]; done) | (simp only [World.size_alloc]; omega))]))
          b6 := by (simp only [walkWorld, envAt]; repeat (first | rw [alloc_get, if_neg (by (try simp only [World.size_alloc]); omega)] | rw [alloc_get, if_pos (by first | rfl | (simp only [World.size_alloc]; done) | (simp only [World.size_alloc]; omega))]))
          b7 := by (simp only [walkWorld, envAt]; repeat (first | rw [alloc_get, if_neg (by (try simp only [World.size_alloc]); omega)] | rw [alloc_get, if_pos (by first | rfl | (simp only [World.size_alloc]; done) | (simp only [World.size_alloc]; omega))]))
          b8 := by (simp only [walkWorld, envAt]; repeat (first | rw [alloc_get, if_neg (by (try simp only [World.size_alloc]); omega)] | rw [alloc_get, if_pos (by first | rfl | (simp only [World.size_alloc]; done) | (simp only [World.size_alloc]; omega))]))
          l := .inl ⟨rfl, rfl⟩
          own := fun k h => by cases h }
    have hit := iter_any hE hM (by rw [hEe]; exact hg) (by rw [hEe]; exact hr) hst
    have hB : E.B = w.heap.size := by rw [hEe]; rfl
    rw [hB] at hit
    refine hit.mono ?_
    rintro e w' ⟨rfl, L', s', G', φ', lv', h⟩
    have h8 := h.aux.b8
    have h7 := h.aux.b7
    have h2 := (cell_of_box h.aux.b2).1
    rw [hB] at h8 h7 h2
    refine ⟨rfl, by rw [hl]; exact h8, h7, ?_, fn, L', s', G', φ', lv', h⟩
    show w'.cell? ⟨w.heap.size + 2, 0, none⟩ = some ((w'.cell? ⟨w.heap.size + 2, 0, none⟩).getD undef)
    rw [h2]; rfl
  · rintro e w' ⟨w2, lr, rfl, ⟨fn, L', s', G', φ', lv', h⟩, rfl⟩
    have h2 := (cell_of_box h.aux.b2).1
    have hB : E.B = w.heap.size := by rw [hEe]; rfl
    rw [hB] at h2
    have hf : Fr (fun k => w.heap.size ≤ k ∧ k < w.heap.size + 9) w2 ((w2.putObj (w.heap.size + 8) (.loop lr)).putObj (w.heap.size + 7) (.deferred none)) :=
      ⟨rfl, rfl, rfl, by simp, fun k _ hk => by
        rw [World.putObj_heap_other (by omega), World.putObj_heap_other (by omega)]⟩
    have hown := h.aux.own
    have hfoot := h.foot hE
    rw [hB] at hown hfoot
    refine ⟨L', s', G', φ', lv', ?_, ?_, ?_, ?_, ?_, ?_, fun k hk => by have := hown k hk; omega⟩
    · show Ending.returned ((w2.cell? ⟨w.heap.size + 2, 0, none⟩).getD undef) = _
      rw [h2]; rfl
    · have := h.rep.of_fr hf (fun k hk => by have := (hfoot k hk).2; omega)
      rw [hEe] at this; exact this
    · have := h.inv; rw [hEe] at this; exact this
    · have := h.base; rw [hEe] at this; exact this
    · have := h.fr
      rw [hEe] at this
      exact this.trans hf fun j hj => .inr hj.1
    · have := h.aux.l.of_block (w' := (w2.putObj (w.heap.size + 8) (.loop lr)).putObj (w.heap.size + 7) (.deferred none)) fun k hk => by
        have := hown k hk
        rw [World.putObj_heap_other (by omega), World.putObj_heap_other (by omega)]
      rw [hEe] at this
      exact this
end Go.Proofs.Ythjokcjdphempaa
