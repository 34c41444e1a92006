/- (*Heap).call: what it does with what it is given; the closure that it defers. -/
import Derived.Test.YthjokcjdphempaaPaid
import Derived.Defers
import Derived.Recover
namespace Go.Proofs.Ythjokcjdphempaa
open Go.RowKit Hp Go.Shelf

theorem assert89 (v : Value) (xT : TypeId) (w : World) : (Instr.typeAssert (.iface 89 v) xT 89 true).run Try.prog w = .ok (.tuple #[v, .bool true]) w := by
  have hu : (Try.prog.underlying 89).map (fun t => match t with | .interface _ => false | _ => true) = some true := by kernel_rfl
  obtain ⟨t, h1, h2⟩ := Option.map_eq_some_iff.1 hu
  unfold Instr.typeAssert
  cases t <;> simp at h2 <;> simp [run_underlying h1, go_sem, Result.andThen]

/-- Two worlds that differ in what has been drawn alone. -/
def Eqw (w w' : World) : Prop := w'.heap = w.heap ∧ w'.os = w.os ∧ w'.tape = w.tape ∧ w'.output = w.output

set_option maxRecDepth 100000 in
set_option maxHeartbeats 1000000 in
theorem catch_idle {hx ax ex hb : Nat} {w : World} {worst copied ahead : Int}
    (c1 : w.cell? ⟨hx, 0, none⟩ = some (.pointer (some ⟨hb, 0, none⟩))) (c2 : w.cell? ⟨ax, 0, none⟩ = some (.int .i64 ahead)) (c3 : w.cell? ⟨hb, 3, none⟩ = some (.int .i64 worst))
    (c4 : w.cell? ⟨hb, 2, none⟩ = some (.int .i64 copied)) (f3 : w.frozen? ⟨hb, 3, none⟩ = false) (hd : wrap64 (copied - ahead) = copied - ahead) :
    CallsD Try.prog 76 #[.pointer (some ⟨hx, 0, none⟩), .pointer (some ⟨ax, 0, none⟩), .pointer (some ⟨ex, 0, none⟩)] .returning w fun e u' w' =>
      e = .returned (.tuple #[]) ∧ u' = .returning ∧ Eqw (w.setCell ⟨hb, 3, none⟩ (.int .i64 (if worst < copied - ahead then copied - ahead else worst))) w' := by
  refine callsD_of_wpS Try.func76 rfl fun c₀ cs hu => ?_
  simp only [Try.ntmps76, List.size_toArray, List.length_cons, List.length_nil, Nat.reduceAdd, Nat.reduceSub, Array.replicate_succ,
     Array.replicate_zero, List.push_toArray, List.append_toArray, List.nil_append, List.cons_append]
  apply wpS_seq
  refine wpS_of_wp ?_
  refine wp_region_z (fun W => W.cell? ⟨hx, 0, none⟩ = some (.pointer (some ⟨hb, 0, none⟩)) ∧ W.cell? ⟨ax, 0, none⟩ = some (.int .i64 ahead) ∧ W.cell? ⟨hb, 3, none⟩ = some (.int .i64 worst) ∧ W.cell? ⟨hb, 2, none⟩ = some (.int .i64 copied)) 17 (by kernel_rfl) ?_
  have hS : (w.drew).cell? ⟨hx, 0, none⟩ = some (.pointer (some ⟨hb, 0, none⟩)) ∧ (w.drew).cell? ⟨ax, 0, none⟩ = some (.int .i64 ahead) ∧ (w.drew).cell? ⟨hb, 3, none⟩ = some (.int .i64 worst) ∧ (w.drew).cell? ⟨hb, 2, none⟩ = some (.int .i64 copied) := ⟨c1, c2, c3, c4⟩
  refine anyZ_marks (fuel := 5) (a' := ?a1) [true, true, true, true, true, true, true, true, true, true, true, true, true, false, false, false, false, false] rfl hS (fun _ _ d _ _ h => by cases d <;> exact h) (by kernel_rfl) (fun W hW => ?_) ?_
  rotate_left
  · obtain ⟨s1, s2, s3, s4⟩ := hW
    simp only [pick]
    repeat (go_big_quiet_step (fail))
    refine wpQuiet_nil ?_
    show _ = _
    with_reducible rfl
  refine anyZ_step 13 rfl (by kernel_rfl) rfl (fun K hK => ?_)
  go_simp
  refine hK _ _ (.inr hS) ?_
  clear hK K
  refine anyZ_step 14 rfl (by kernel_rfl) rfl (fun K hK => ?_)
  go_simp
  refine hK _ _ (.inr hS) ?_
  clear hK K
  refine anyZ_step 15 rfl (by kernel_rfl) rfl (fun K hK => ?_)
  go_simp
  refine hK _ _ (.inr hS) ?_
  clear hK K
  refine anyZ_step 16 rfl (by kernel_rfl) rfl (fun K hK => ?_)
  go_simp
  refine hK _ _ (.inr hS) ?_
  clear hK K
  refine anyZ_step 17 rfl (by kernel_rfl) rfl (fun K hK => ?_)
  go_simp
  refine hK _ _ (.inl (by kernel_rfl)) ?_
  clear hK K hS
  refine anyZ_done (by kernel_rfl) ?_ _
  obtain ⟨m, hm⟩ : ∃ m, m = if worst < copied - ahead then copied - ahead else worst := ⟨_, rfl⟩
  rw [← hm]
  clear hm
  show Code.wpS _ _ _ _ _ _
  apply wpS_seq
  apply wpS_region
  simp [wpOpsS, go_sem, recoverD, hu, Exit.thenS]
  refine wpS_of_wp ?_
  have HU := Lib.hid hu
  clear hu c1 c2 c3 c4 f3 hd
  go_wp2
  refine ⟨rfl, .returning, ?_, _, results_none rfl _ _ _, rfl, rfl, rfl, rfl, rfl, rfl⟩
  have hu := HU.out
  cases c₀
  simp at hu
  subst hu
  rfl

set_option maxRecDepth 100000 in
set_option maxHeartbeats 1000000 in
theorem catch_trouble {hx ax ex hb : Nat} {w : World} {worst copied ahead e0 : Int} {e1 : Value} {older : List PanicEntry}
    (c1 : w.cell? ⟨hx, 0, none⟩ = some (.pointer (some ⟨hb, 0, none⟩))) (c2 : w.cell? ⟨ax, 0, none⟩ = some (.int .i64 ahead)) (c3 : w.cell? ⟨hb, 3, none⟩ = some (.int .i64 worst))
    (c4 : w.cell? ⟨hb, 2, none⟩ = some (.int .i64 copied)) (f3 : w.frozen? ⟨hb, 3, none⟩ = false) (c5 : w.cell? ⟨ex, 0, none⟩ = some e1) (f5 : w.frozen? ⟨ex, 0, none⟩ = false) (hxe : ex ≠ hb) (hd : wrap64 (copied - ahead) = copied - ahead) :
    CallsD Try.prog 76 #[.pointer (some ⟨hx, 0, none⟩), .pointer (some ⟨ax, 0, none⟩), .pointer (some ⟨ex, 0, none⟩)] (.panicking ({ v := .iface 89 (.agg #[.int .i64 e0]), recovered := false } :: older)) w fun e u' w' =>
      e = .returned (.tuple #[]) ∧ u' = .panicking ({ v := .iface 89 (.agg #[.int .i64 e0]), recovered := true } :: older) ∧
        Eqw (((w.setCell ⟨hb, 3, none⟩ (.int .i64 (if worst < copied - ahead then copied - ahead else worst))).alloc (.cells #[.int .i64 e0] 89)).setCell ⟨ex, 0, none⟩ (.int .i64 e0)) w' := by
  refine callsD_of_wpS Try.func76 rfl fun c₀ cs hu => ?_
  simp only [Try.ntmps76, List.size_toArray, List.length_cons, List.length_nil, Nat.reduceAdd, Nat.reduceSub, Array.replicate_succ,
     Array.replicate_zero, List.push_toArray, List.append_toArray, List.nil_append, List.cons_append]
  apply wpS_seq
  refine wpS_of_wp ?_
  refine wp_region_z (fun W => W.cell? ⟨hx, 0, none⟩ = some (.pointer (some ⟨hb, 0, none⟩)) ∧ W.cell? ⟨ax, 0, none⟩ = some (.int .i64 ahead) ∧ W.cell? ⟨hb, 3, none⟩ = some (.int .i64 worst) ∧ W.cell? ⟨hb, 2, none⟩ = some (.int .i64 copied)) 17 (by kernel_rfl) ?_
  have hS : (w.drew).cell? ⟨hx, 0, none⟩ = some (.pointer (some ⟨hb, 0, none⟩)) ∧ (w.drew).cell? ⟨ax, 0, none⟩ = some (.int .i64 ahead) ∧ (w.drew).cell? ⟨hb, 3, none⟩ = some (.int .i64 worst) ∧ (w.drew).cell? ⟨hb, 2, none⟩ = some (.int .i64 copied) := ⟨c1, c2, c3, c4⟩
  refine anyZ_marks (fuel := 5) (a' := ?a1) [true, true, true, true, true, true, true, true, true, true, true, true, true, false, false, false, false, false] rfl hS (fun _ _ d _ _ h => by cases d <;> exact h) (by kernel_rfl) (fun W hW => ?_) ?_
  rotate_left
  · obtain ⟨s1, s2, s3, s4⟩ := hW
    simp only [pick]
    repeat (go_big_quiet_step (fail))
    refine wpQuiet_nil ?_
    show _ = _
    with_reducible rfl
  refine anyZ_step 13 rfl (by kernel_rfl) rfl (fun K hK => ?_)
  go_simp
  refine hK _ _ (.inr hS) ?_
  clear hK K
  refine anyZ_step 14 rfl (by kernel_rfl) rfl (fun K hK => ?_)
  go_simp
  refine hK _ _ (.inr hS) ?_
  clear hK K
  refine anyZ_step 15 rfl (by kernel_rfl) rfl (fun K hK => ?_)
  go_simp
  refine hK _ _ (.inr hS) ?_
  clear hK K
  refine anyZ_step 16 rfl (by kernel_rfl) rfl (fun K hK => ?_)
  go_simp
  refine hK _ _ (.inr hS) ?_
  clear hK K
  refine anyZ_step 17 rfl (by kernel_rfl) rfl (fun K hK => ?_)
  go_simp
  refine hK _ _ (.inl (by kernel_rfl)) ?_
  clear hK K hS
  refine anyZ_done (by kernel_rfl) ?_ _
  obtain ⟨m, hm⟩ : ∃ m, m = if worst < copied - ahead then copied - ahead else worst := ⟨_, rfl⟩
  rw [← hm]
  clear hm
  show Code.wpS _ _ _ _ _ _
  apply wpS_seq
  apply wpS_region
  simp [wpOpsS, go_sem, recoverD, hu, Exit.thenS]
  refine wpS_of_wp ?_
  have HU := Lib.hid hu
  have hex : ex < (w.setCell ⟨hb, 3, none⟩ (.int .i64 m)).heap.size := by
    have := World.block_lt_of_cell? _ _ c5
    simpa using this
  have hblk : ((w.setCell ⟨hb, 3, none⟩ (.int .i64 m)).alloc (.cells #[.int .i64 e0] 89)).heap[ex]? = w.heap[ex]? :=
    (Below.heap_alloc _ _ _ hex).trans (setCell_other w hb 3 _ hxe)
  have c6 : ((w.setCell ⟨hb, 3, none⟩ (.int .i64 m)).alloc (.cells #[.int .i64 e0] 89)).cell? ⟨ex, 0, none⟩ = some e1 := by
    rw [← c5]; exact World.cell?_of_block hblk
  have f6 : ((w.setCell ⟨hb, 3, none⟩ (.int .i64 m)).alloc (.cells #[.int .i64 e0] 89)).frozen? ⟨ex, 0, none⟩ = false := by
    rw [← f5]; exact World.frozen?_of_block hblk
  clear hblk hex
  have hta := fun W => assert89 (.agg #[.int .i64 e0]) 20 W
  clear hu c1 c2 c3 c4 c5 f5 f3 hd hxe
  go_wp2
  refine ⟨rfl, .panicking ({ v := .iface 89 (.agg #[.int .i64 e0]), recovered := true } :: older), rfl, _, results_none rfl _ _ _, rfl, rfl, rfl, rfl, rfl, rfl⟩

theorem fr_alloc1 (w : World) (o : Obj) : Fr (fun _ => False) w (w.alloc o) := ⟨rfl, rfl, rfl, by simp, fun k hk _ => Below.heap_alloc w o k hk⟩

set_option maxHeartbeats 1000000 in
/-- **call** on no heap. -/
theorem call_nil (f : Value) (w : World) : Calls Try.prog 37 #[.pointer none, f] w fun e w' => e = .returned (.int .i64 9) ∧ Fr (fun _ => False) w w' := by
  go_enter_defers Try.func37, Try.ntmps37
  go_wp2
  simp [bodyPostD, Leaves, results, Try.results37, go_sem]
  exact (fr_alloc1 _ _).trans (fr_alloc1 _ _) (fun _ h => h.elim)

set_option maxHeartbeats 1000000 in
/-- **call** on a zero heap. -/
theorem call_zero {hb : Nat} (f : Value) (w : World) (d6 : w.cell? ⟨hb, 6, none⟩ = some (.int .i64 0)) (hlt : hb < w.heap.size) : Calls Try.prog 37 #[.pointer (some ⟨hb, 0, none⟩), f] w fun e w' => e = .returned (.int .i64 9) ∧ Fr (fun _ => False) w w' := by
  go_enter_defers Try.func37, Try.ntmps37
  go_wp2
  simp [bodyPostD, Leaves, results, Try.results37, go_sem]
  exact (fr_alloc1 _ _).trans (fr_alloc1 _ _) (fun _ h => h.elim)

/-- The world in which call calls what it is given. -/
def called (hb : Nat) (ahead : Int) (w : World) : World := ((w.alloc (.cells #[.pointer (some ⟨hb, 0, none⟩)] 23)).alloc (.cells #[.int .i64 0] 28)).alloc (.cells #[.int .i64 ahead] 3)

/-- What call needs of the world behind what it is given. -/
structure Held (hb n : Nat) (ahead worst copied : Int) (W : World) : Prop where
  h : W.cell? ⟨n, 0, none⟩ = some (.pointer (some ⟨hb, 0, none⟩))
  a : W.cell? ⟨n + 1 + 1, 0, none⟩ = some (.int .i64 ahead)
  e : W.cell? ⟨n + 1, 0, none⟩ = some (.int .i64 0)
  fe : W.frozen? ⟨n + 1, 0, none⟩ = false
  c3 : W.cell? ⟨hb, 3, none⟩ = some (.int .i64 worst)
  c2 : W.cell? ⟨hb, 2, none⟩ = some (.int .i64 copied)
  f3 : W.frozen? ⟨hb, 3, none⟩ = false
  sub : wrap64 (copied - ahead) = copied - ahead
  ne : n + 1 ≠ hb
  ne1 : n ≠ hb
  ne2 : n + 1 + 1 ≠ hb

theorem wp_call_closure0 {o : Oper} {a : Act} {w : World} {K : Act → World → Prop} {Q : Exit → Act → World → Prop} (f : Operand) {ts : Array TypeId} (ho : o.op = .call { callee := .value f, args := #[], argTypes := ts }) {g : Nat} {lb : Array Value}
    (hf : a.eval f = .func (.func g) #[] lb) (eg : ∀ args w, (callFunc g args).run Try.prog w = .ok (.enter g args) w)
    (h : Calls Try.prog g lb w fun e w' => (∃ u, e = .returned u ∧ K (a.put o.dst u) w') ∨ ∃ c, e = .panicked c ∧ Q (.panic c) a w') : o.wp Try.prog a w K Q := by
  unfold Oper.wp execOp
  simp only [ho, resolve, hf, List.map_toArray, List.map_nil]
  simp [go_sem, eg, invoke, Oper.upon]
  refine h.mono ?_
  rintro e w' (⟨u, rfl, hk⟩ | ⟨c, rfl, hk⟩)
  · exact hk
  · exact hk

set_option maxRecDepth 100000 in
set_option maxHeartbeats 1000000 in
/-- **call**: what it is given is done, or fails. -/
theorem call_core {hb g : Nat} {lb : Array Value} {w : World} {copied room : Int} {M : World → Prop} {T : Int → World → Prop} (d2 : w.cell? ⟨hb, 2, none⟩ = some (.int .i64 copied)) (d6 : w.cell? ⟨hb, 6, none⟩ = some (.int .i64 room)) (hroom : room ≠ 0) (hlt : hb < w.heap.size)
    (hg : ∀ args w, (callFunc g args).run Try.prog w = .ok (.enter g args) w)
    (H : Calls Try.prog g lb (called hb copied w) fun e W1 => (e = .returned (.tuple #[]) ∧ M W1) ∨ ∃ x, e = .panicked (trouble x) ∧ T x W1)
    (hM : ∀ W1, M W1 ∨ (∃ x, T x W1) → ∃ worst c', Held hb w.heap.size copied worst c' W1) :
    Calls Try.prog 37 #[.pointer (some ⟨hb, 0, none⟩), .func (.func g) #[] lb] w fun e w' => ∃ W1 worst c', Held hb w.heap.size copied worst c' W1 ∧
      ((M W1 ∧ e = .returned (.int .i64 0) ∧ Eqw ((W1.setCell ⟨w.heap.size + 1, 0, none⟩ (.int .i64 0)).setCell ⟨hb, 3, none⟩ (.int .i64 (if worst < c' - copied then c' - copied else worst))) w') ∨
       (∃ x, T x W1 ∧ e = .returned (.int .i64 x) ∧ Eqw (((W1.setCell ⟨hb, 3, none⟩ (.int .i64 (if worst < c' - copied then c' - copied else worst))).alloc (.cells #[.int .i64 x] 89)).setCell ⟨w.heap.size + 1, 0, none⟩ (.int .i64 x)) w')) := by
  have hmf : ∀ (fn : Fn) (first cap : Array Value) (w : World), (Instr.makeFunc fn first cap).run Try.prog w = .ok (.func fn first cap) w := fun _ _ _ _ => rfl
  have HH := Lib.hid H
  have HM := Lib.hid hM
  have HG := Lib.hid hg
  clear H hM hg
  go_enter_defers Try.func37, Try.ntmps37
  go_wp2
  rw [HG.out]
  refine HH.out.mono ?_
  rintro e W1 (⟨rfl, hm⟩ | ⟨x, rfl, hx⟩)
  · obtain ⟨worst, c', hh⟩ := HM.out W1 (.inl hm)
    obtain ⟨q1, q2, q3, q4, q5, q6, q7, q8, q9, q10, q11⟩ := id hh
    have hset : ∀ b k : Nat, b ≠ w.heap.size + 1 → (W1.setCell ⟨w.heap.size + 1, 0, none⟩ (.int .i64 0)).heap[b]? = W1.heap[b]? := fun b k hb => setCell_other W1 _ 0 _ hb
    have HQ := Lib.hid (And.intro hh hm)
    have HS := Lib.hid hset
    have p1 : (W1.setCell ⟨w.heap.size + 1, 0, none⟩ (.int .i64 0)).cell? ⟨w.heap.size, 0, none⟩ = some (.pointer (some ⟨hb, 0, none⟩)) := (cell_of_heap (hset _ 0 (by simp))).trans q1
    have p2 : (W1.setCell ⟨w.heap.size + 1, 0, none⟩ (.int .i64 0)).cell? ⟨w.heap.size + 1 + 1, 0, none⟩ = some (.int .i64 copied) := (cell_of_heap (hset _ 0 (by simp))).trans q2
    have p3 : (W1.setCell ⟨w.heap.size + 1, 0, none⟩ (.int .i64 0)).cell? ⟨hb, 3, none⟩ = some (.int .i64 worst) := (cell_of_heap (hset _ 0 (Ne.symm q9))).trans q5
    have p4 : (W1.setCell ⟨w.heap.size + 1, 0, none⟩ (.int .i64 0)).cell? ⟨hb, 2, none⟩ = some (.int .i64 c') := (cell_of_heap (hset _ 0 (Ne.symm q9))).trans q6
    have p5 : (W1.setCell ⟨w.heap.size + 1, 0, none⟩ (.int .i64 0)).frozen? ⟨hb, 3, none⟩ = false := (frozen_of_heap (hset _ 0 (Ne.symm q9))).trans q7
    have HC := Lib.hid (catch_idle (ex := w.heap.size + 1) p1 p2 p3 p4 p5 q8)
    clear hh hm hset p1 p2 p3 p4 p5 q1 q2 q5 q6 q7 q8 q9 q10 q11 d2 d6 hroom
    go_wp2
    refine leaves_cons (f := 76) (args := #[.pointer (some ⟨w.heap.size, 0, none⟩), .pointer (some ⟨w.heap.size + 1 + 1, 0, none⟩), .pointer (some ⟨w.heap.size + 1, 0, none⟩)]) (by simp) (by simp [go_sem]) ?_
    refine (HC.out).mono ?_
    rintro e u' w'' ⟨rfl, rfl, hw⟩
    obtain ⟨hh, hm⟩ := HQ.out
    have hc : w''.cell? ⟨w.heap.size + 1, 0, none⟩ = some (.int .i64 0) := by
      rw [cell_of_heap (w := (W1.setCell ⟨w.heap.size + 1, 0, none⟩ (.int .i64 0)).setCell ⟨hb, 3, none⟩ (.int .i64 (if worst < c' - copied then c' - copied else worst))) (by rw [hw.1])]
      rw [cell_of_heap (w := W1.setCell ⟨w.heap.size + 1, 0, none⟩ (.int .i64 0)) (setCell_other _ hb 3 _ hh.ne)]
      exact World.cell?_setCell_same _ _ _ q3
    simp [Leaves, settle, results, Try.results37, go_sem, hc]
    exact ⟨W1, worst, c', hh, .inl ⟨hm, hw⟩⟩
  · obtain ⟨worst, c', hh⟩ := HM.out W1 (.inr ⟨x, hx⟩)
    obtain ⟨q1, q2, q3, q4, q5, q6, q7, q8, q9, q10, q11⟩ := id hh
    have HQ := Lib.hid (And.intro hh hx)
    have HC := Lib.hid (catch_trouble (ex := w.heap.size + 1) (e0 := x) (older := []) q1 q2 q5 q6 q7 q3 q4 q9 q8)
    clear hh hx q1 q2 q5 q6 q7 q8 q9 q10 q11 d2 d6 hroom
    go_wp2
    refine leaves_cons (f := 76) (args := #[.pointer (some ⟨w.heap.size, 0, none⟩), .pointer (some ⟨w.heap.size + 1 + 1, 0, none⟩), .pointer (some ⟨w.heap.size + 1, 0, none⟩)]) (by simp) (by simp [go_sem]) ?_
    refine (HC.out).mono ?_
    rintro e u' w'' ⟨rfl, rfl, hw⟩
    obtain ⟨hh, hx⟩ := HQ.out
    have hlt := World.block_lt_of_cell? _ _ q3
    have hc : w''.cell? ⟨w.heap.size + 1, 0, none⟩ = some (.int .i64 x) := by
      rw [cell_of_heap (w := ((W1.setCell ⟨hb, 3, none⟩ (.int .i64 (if worst < c' - copied then c' - copied else worst))).alloc (.cells #[.int .i64 x] 89)).setCell ⟨w.heap.size + 1, 0, none⟩ (.int .i64 x)) (by rw [hw.1])]
      have h1 : ((W1.setCell ⟨hb, 3, none⟩ (.int .i64 (if worst < c' - copied then c' - copied else worst))).alloc (.cells #[.int .i64 x] 89)).cell? ⟨w.heap.size + 1, 0, none⟩ = some (.int .i64 0) := by
        rw [← q3]
        exact World.cell?_of_block ((Below.heap_alloc _ _ _ (by simpa using hlt)).trans (setCell_other W1 hb 3 _ hh.ne))
      exact World.cell?_setCell_same _ _ _ h1
    simp [Leaves, settle, results, Try.results37, go_sem, hc]
    exact ⟨W1, worst, c', hh, .inr ⟨x, hx, rfl, hw⟩⟩

end Go.Proofs.Ythjokcjdphempaa

namespace Go.Proofs.Ythjokcjdphempaa
open Go.RowKit Hp Go.Shelf

/-- What a step leaves that may also write the blocks X. -/
structure LeftX (X : Nat → Prop) (hb : Nat) (L L' : Lay) (w w' : World) : Prop where
  fr : Fr (fun k => L.foot hb k ∨ X k) w w'
  foot : ∀ k, L'.foot hb k → L.foot hb k ∨ w.heap.size ≤ k

theorem Left.x {hb : Nat} {L L' : Lay} {w w' : World} (h : Left hb L L' w w') (X : Nat → Prop) : LeftX X hb L L' w w' := ⟨h.fr.mono fun _ h => .inl h, h.foot⟩
theorem LeftX.left {hb : Nat} {L L' : Lay} {w w' : World} (h : LeftX (fun _ => False) hb L L' w w') : Left hb L L' w w' := ⟨h.fr.mono fun _ h => h.elim id False.elim, h.foot⟩
theorem LeftX.refl (X : Nat → Prop) (hb : Nat) (L : Lay) (w : World) : LeftX X hb L L w w := (Left.refl hb L w).x X
theorem LeftX.trans {X : Nat → Prop} {hb : Nat} {L L1 L2 : Lay} {w w1 w2 : World} (h : LeftX X hb L L1 w w1) (k : LeftX X hb L1 L2 w1 w2) : LeftX X hb L L2 w w2 :=
  ⟨h.fr.trans k.fr (fun j hj => by
    rcases hj with hj | hj
    · rcases h.foot j hj with h1 | h1
      · exact .inl (.inl h1)
      · exact .inr h1
    · exact .inl (.inr hj)), fun j hj => by
    rcases k.foot j hj with h1 | h1
    · exact h.foot j h1
    · exact .inr (Nat.le_trans h.fr.size h1)⟩

theorem Eqw.fr {w w' : World} (h : Eqw w w') (B : Nat → Prop) : Fr B w w' := ⟨h.2.1, h.2.2.1, h.2.2.2, by rw [h.1]; exact Nat.le_refl _, fun k _ _ => by rw [h.1]⟩
theorem Fr.x {X B : Nat → Prop} {hb : Nat} {L : Lay} {w w' : World} (h : Fr B w w') (hB : ∀ k, B k → L.foot hb k ∨ X k) : LeftX X hb L L w w' := ⟨h.mono hB, fun _ h => .inl h⟩

theorem called_fr (hb : Nat) (ahead : Int) (w : World) : Fr (fun _ => False) w (called hb ahead w) :=
  ((fr_alloc1 _ _).trans (fr_alloc1 _ _) (fun _ h => h.elim)).trans (fr_alloc1 _ _) (fun _ h => h.elim)

theorem called_size (hb : Nat) (ahead : Int) (w : World) : (called hb ahead w).heap.size = w.heap.size + 3 := by simp [called]

theorem called_new (hb : Nat) (ahead : Int) (w : World) : (called hb ahead w).heap[w.heap.size]? = some (.cells #[.pointer (some ⟨hb, 0, none⟩)] 23) ∧
    (called hb ahead w).heap[w.heap.size + 1]? = some (.cells #[.int .i64 0] 28) ∧ (called hb ahead w).heap[w.heap.size + 1 + 1]? = some (.cells #[.int .i64 ahead] 3) := by
  refine ⟨?_, ?_, ?_⟩
  · unfold called
    rw [Below.heap_alloc _ _ _ (by simp; omega), Below.heap_alloc _ _ _ (by simp)]
    exact World.alloc_heap_new w _
  · unfold called
    rw [Below.heap_alloc _ _ _ (by simp)]
    have h := World.alloc_heap_new (w.alloc (.cells #[.pointer (some ⟨hb, 0, none⟩)] 23)) (.cells #[.int .i64 0] 28)
    simpa using h
  · unfold called
    have h := World.alloc_heap_new ((w.alloc (.cells #[.pointer (some ⟨hb, 0, none⟩)] 23)).alloc (.cells #[.int .i64 0] 28)) (.cells #[.int .i64 ahead] 3)
    simpa using h

/-- The greatest pause behind a call. -/
def worse (worst c : Int) : Int := if worst < c then c else worst

set_option maxHeartbeats 1000000 in
/-- **call**. -/
theorem call_any {hb g : Nat} {lb : Array Value} {w : World} {L : Lay} {s : HS} (hr : HRep w hb L s) (h0 : 256 ≤ s.room) (hc : 0 ≤ s.copied ∧ s.copied ≤ 1000000000000) {X : Nat → Prop} (hX : ∀ k, X k → k < w.heap.size)
    (hg : ∀ args w, (callFunc g args).run Try.prog w = .ok (.enter g args) w) {M : Option Int → Lay → HS → World → Prop}
    (H : Calls Try.prog g lb (called hb s.copied w) fun e W1 => ∃ L1 s1 x, ((x = none ∧ e = .returned (.tuple #[])) ∨ ∃ v, x = some v ∧ e = .panicked (trouble v)) ∧ HRep W1 hb L1 s1 ∧
      LeftX X hb L L1 (called hb s.copied w) W1 ∧ (s.copied ≤ s1.copied ∧ s1.copied ≤ 1000000000000) ∧ M x L1 s1 W1) :
    Calls Try.prog 37 #[.pointer (some ⟨hb, 0, none⟩), .func (.func g) #[] lb] w fun e w' => ∃ W1 L1 s1 x, e = .returned (.int .i64 (x.getD 0)) ∧ HRep w' hb L1 { s1 with worst := worse s1.worst (s1.copied - s.copied) } ∧
      LeftX X hb L L1 w w' ∧ M x L1 s1 W1 ∧ ∀ k, k < W1.heap.size → k ≠ hb → k ≠ w.heap.size + 1 → w'.heap[k]? = W1.heap[k]? := by
  have hlt : hb < w.heap.size := hr.lt (.inl rfl)
  obtain ⟨n1, n2, n3⟩ := called_new hb s.copied w
  have hsz := called_size hb s.copied w
  have hfoot : ∀ k, L.foot hb k → k < w.heap.size := fun k hk => hr.lt hk
  have hold : ∀ L1 W1, LeftX X hb L L1 (called hb s.copied w) W1 → ∀ k, w.heap.size ≤ k → k < w.heap.size + 3 → W1.heap[k]? = (called hb s.copied w).heap[k]? := by
    intro L1 W1 h k hk1 hk2
    refine h.fr.block k (by omega) ?_
    rintro (h1 | h1)
    · have := hfoot k h1; omega
    · have := hX k h1; omega
  refine (call_core (M := fun W1 => ∃ L1 s1, HRep W1 hb L1 s1 ∧ LeftX X hb L L1 (called hb s.copied w) W1 ∧ (s.copied ≤ s1.copied ∧ s1.copied ≤ 1000000000000) ∧ M none L1 s1 W1)
    (T := fun v W1 => ∃ L1 s1, HRep W1 hb L1 s1 ∧ LeftX X hb L L1 (called hb s.copied w) W1 ∧ (s.copied ≤ s1.copied ∧ s1.copied ≤ 1000000000000) ∧ M (some v) L1 s1 W1) hr.c2 hr.c6 (by omega) hlt hg (H.mono ?_) ?_).mono ?_
  · rintro e W1 ⟨L1, s1, x, hx, h1, h2, h3, h4⟩
    rcases hx with ⟨rfl, rfl⟩ | ⟨v, rfl, rfl⟩
    · exact .inl ⟨rfl, L1, s1, h1, h2, h3, h4⟩
    · exact .inr ⟨v, rfl, L1, s1, h1, h2, h3, h4⟩
  · intro W1 hW
    obtain ⟨L1, s1, h1, h2, h3⟩ : ∃ L1 s1, HRep W1 hb L1 s1 ∧ LeftX X hb L L1 (called hb s.copied w) W1 ∧ (s.copied ≤ s1.copied ∧ s1.copied ≤ 1000000000000) := by
      rcases hW with ⟨L1, s1, h1, h2, h3, _⟩ | ⟨_, L1, s1, h1, h2, h3, _⟩ <;> exact ⟨L1, s1, h1, h2, h3⟩
    have b1 := (hold L1 W1 h2 w.heap.size (Nat.le_refl _) (by omega)).trans n1
    have b2 := (hold L1 W1 h2 (w.heap.size + 1) (by omega) (by omega)).trans n2
    have b3 := (hold L1 W1 h2 (w.heap.size + 1 + 1) (by omega) (by omega)).trans n3
    exact ⟨s1.worst, s1.copied, (cell_of_box b1).1, (cell_of_box b3).1, (cell_of_box b2).1, (cell_of_box b2).2, h1.c3, h1.c2, h1.froz 3, by unfold wrap64; omega, by omega, by omega, by omega⟩
  · rintro e w' ⟨W1, worst, c', hh, hcase⟩
    have hlift : ∀ L1 s1, HRep W1 hb L1 s1 → LeftX X hb L L1 (called hb s.copied w) W1 → worst = s1.worst ∧ c' = s1.copied := by
      intro L1 s1 h1 _
      have e1 := hh.c3.symm.trans h1.c3
      have e2 := hh.c2.symm.trans h1.c2
      cases e1; cases e2
      exact ⟨rfl, rfl⟩
    rcases hcase with ⟨⟨L1, s1, h1, h2, h3, h4⟩, rfl, hw⟩ | ⟨x, ⟨L1, s1, h1, h2, h3, h4⟩, rfl, hw⟩
    · obtain ⟨rfl, rfl⟩ := hlift L1 s1 h1 h2
      have fE : Fr (fun k => k = w.heap.size + 1) W1 (W1.setCell ⟨w.heap.size + 1, 0, none⟩ (.int .i64 0)) := fr_setCell _ _ _ _
      have hnf : ∀ k, L1.foot hb k → ¬ (k = w.heap.size + 1) := by
        rintro k hk rfl
        rcases h2.foot _ hk with h | h
        · have := hfoot _ h; omega
        · omega
      have rE := h1.of_fr fE hnf
      have rW : HRep ((W1.setCell ⟨w.heap.size + 1, 0, none⟩ (.int .i64 0)).setCell ⟨hb, 3, none⟩ (.int .i64 (worse s1.worst (s1.copied - s.copied)))) hb L1 { s1 with worst := worse s1.worst (s1.copied - s.copied) } := rE.scalar 3 _ rfl (fun i _ => rfl)
      refine ⟨W1, L1, s1, none, rfl, rW.of_heap hw.1, ?_, h4, ?_⟩
      · have F0 : Fr (fun k => L.foot hb k ∨ X k) w (called hb s.copied w) := (called_fr hb s.copied w).mono fun _ h => h.elim
        have F1 := F0.trans h2.fr (fun j hj => .inl hj)
        have F2 := F1.trans fE (fun j hj => .inr (by omega))
        have F3 := F2.trans (fr_setCell _ hb 3 (.int .i64 (worse s1.worst (s1.copied - s.copied)))) (fun j hj => .inl (.inl (.inl hj)))
        exact ⟨F3.trans (hw.fr (fun _ => False)) (fun _ h => h.elim), fun k hk => (h2.foot k hk).imp id fun h => by omega⟩
      · intro k hk hne hne2
        rw [hw.1, setCell_other _ _ _ _ hne, setCell_other _ _ _ _ hne2]
    · obtain ⟨rfl, rfl⟩ := hlift L1 s1 h1 h2
      have rW : HRep (W1.setCell ⟨hb, 3, none⟩ (.int .i64 (worse s1.worst (s1.copied - s.copied)))) hb L1 { s1 with worst := worse s1.worst (s1.copied - s.copied) } := h1.scalar 3 _ rfl (fun i _ => rfl)
      have fA := fr_alloc1 (W1.setCell ⟨hb, 3, none⟩ (.int .i64 (worse s1.worst (s1.copied - s.copied)))) (.cells #[.int .i64 x] 89)
      have rA := rW.of_fr fA (fun _ _ h => h)
      have fE := fr_setCell ((W1.setCell ⟨hb, 3, none⟩ (.int .i64 (worse s1.worst (s1.copied - s.copied)))).alloc (.cells #[.int .i64 x] 89)) (w.heap.size + 1) 0 (.int .i64 x)
      have hnf : ∀ k, L1.foot hb k → ¬ (k = w.heap.size + 1) := by
        rintro k hk rfl
        rcases h2.foot _ hk with h | h
        · have := hfoot _ h; omega
        · omega
      have rE := rA.of_fr fE hnf
      refine ⟨W1, L1, s1, some x, rfl, rE.of_heap hw.1, ?_, h4, ?_⟩
      · have F0 : Fr (fun k => L.foot hb k ∨ X k) w (called hb s.copied w) := (called_fr hb s.copied w).mono fun _ h => h.elim
        have F1 := F0.trans h2.fr (fun j hj => .inl hj)
        have F2 := F1.trans (fr_setCell _ hb 3 (.int .i64 (worse s1.worst (s1.copied - s.copied)))) (fun j hj => .inl (.inl (.inl hj)))
        have F3 := F2.trans fA (fun j hj => hj.elim)
        have F4 := F3.trans fE (fun j hj => .inr (by omega))
        exact ⟨F4.trans (hw.fr (fun _ => False)) (fun _ h => h.elim), fun k hk => (h2.foot k hk).imp id fun h => by omega⟩
      · intro k hk hne hne2
        rw [hw.1, setCell_other _ _ _ _ hne2, Below.heap_alloc _ _ _ (by simp; omega), setCell_other _ _ _ _ hne]
end Go.Proofs.Ythjokcjdphempaa
