/- Maps from int: look-up and insertion, and their steps in a walk. -/
import Derived.Test.YthjokcjdphempaaApp
import Derived.MapKept
import Derived.Carry
import Derived.RangeFuncRecord
namespace Go.Proofs.Ythjokcjdphempaa
open Go.RowKit Hp

/-- A map whose keys are xs, in the order in which they came; f: what lies at each. -/
def IsMap (w : World) (b : Nat) (xs : List Int) (f : Nat → Value) : Prop :=
  ∃ es clock, w.heap[b]? = some (.map es clock) ∧ es.size = xs.length ∧ ∀ i x, xs[i]? = some x → ∃ e : MapEntry, es[i]? = some e ∧ e.key = .int .i64 x ∧ e.val = f i

theorem IsMap.of_block {w w' : World} {b : Nat} {xs : List Int} {f : Nat → Value} (h : IsMap w b xs f) (hb : w'.heap[b]? = w.heap[b]?) : IsMap w' b xs f := by
  obtain ⟨es, c, h1, h2⟩ := h
  exact ⟨es, c, by rw [hb, h1], h2⟩

theorem findNow_ints (x : Int) : ∀ (es : List MapEntry) (xs : List Int) (k : Nat), es.length = xs.length → (∀ (i : Nat) (x : Int), xs[i]? = some x → ∃ e : MapEntry, es[i]? = some e ∧ e.key = Value.int .i64 x) →
    (x ∉ xs → Instr.findNow (.int .i64) (.int .i64 x) es k = some none) ∧
    (∀ i : Nat, xs[i]? = some x → ∃ (j : Nat) (e : MapEntry), xs[j]? = some x ∧ es[j]? = some e ∧ Instr.findNow (.int .i64) (.int .i64 x) es k = some (some (k + j, e.val)))
  | [], xs, k, hl, _ => by
    have : xs = [] := by cases xs with | nil => rfl | cons => simp at hl
    subst this
    exact ⟨fun _ => rfl, fun i h => by simp at h⟩
  | e :: es, xs, k, hl, h => by
    cases xs with
    | nil => simp at hl
    | cons y ys =>
      obtain ⟨e', he, hk⟩ := h 0 y rfl
      simp at he
      subst he
      obtain ⟨i1, i2⟩ := findNow_ints x es ys (k + 1) (by simpa using hl) (fun i z hz => by have := h (i + 1) z (by simpa using hz); simpa using this)
      unfold Instr.findNow
      rw [hk]
      simp only [Instr.sameNow, if_true]
      by_cases hxy : x = y
      · subst hxy
        simp only [beq_self_eq_true]
        exact ⟨fun hn => absurd (List.mem_cons_self ..) hn, fun _ _ => ⟨0, e, rfl, rfl, rfl⟩⟩
      · have : (x == y) = false := by simpa using hxy
        simp only [this]
        refine ⟨fun hn => i1 (fun hm => hn (List.mem_cons_of_mem _ hm)), fun i hi => ?_⟩
        cases i with
        | zero => simp at hi; exact absurd hi.symm hxy
        | succ i =>
          obtain ⟨j, e1, h1, h2, h3⟩ := i2 i (by simpa using hi)
          exact ⟨j + 1, e1, by simpa using h1, by simpa using h2, by rw [h3]; simp [Nat.add_assoc, Nat.add_comm 1 j]⟩

section
variable {w : World} {b : Nat} {xs : List Int} {f : Nat → Value} {t e : TypeId}

theorem checkKey_int (em : Bool) (x : Int) (w : World) : (Instr.checkKey em 10000 3 (.int .i64 x)).run Try.prog w = .ok () w := by
  unfold Instr.checkKey
  simp [Sem.run_bind, run_underlying Try.underlying3, Result.andThen]

theorem IsMap.find (h : IsMap w b xs f) {es : Array MapEntry} {c : Nat} (hb : w.heap[b]? = some (.map es c)) (x : Int) :
    (x ∉ xs → Instr.findNow (.int .i64) (.int .i64 x) es.toList 0 = some none) ∧
    (∀ i : Nat, xs[i]? = some x → ∃ j : Nat, xs[j]? = some x ∧ Instr.findNow (.int .i64) (.int .i64 x) es.toList 0 = some (some (j, f j))) := by
  obtain ⟨es', c', h1, h2, h3⟩ := h
  rw [hb] at h1
  cases h1
  obtain ⟨f1, f2⟩ := findNow_ints x es.toList xs 0 (by simpa using h2) (fun i y hy => by obtain ⟨e, he, hk, _⟩ := h3 i y hy; exact ⟨e, by simpa using he, hk⟩)
  refine ⟨f1, fun i hi => ?_⟩
  obtain ⟨j, e, hj, he, hf⟩ := f2 i hi
  obtain ⟨e', he', _, hv⟩ := h3 j x hj
  have : e = e' := by have := he; simp at this; rw [he'] at this; cases this; rfl
  subst this
  exact ⟨j, hj, by rw [hf, hv]; simp⟩

theorem run_lookup_ints (ht : Try.prog.underlying t = some (.map 3 e)) {z : Value} (hz : (zeroValue e).run Try.prog w = .ok z w) (h : IsMap w b xs f) (x : Int) :
    (x ∉ xs → (Instr.lookup t (.map (some b)) (.int .i64 x) false).run Try.prog w = .ok z w) ∧
    (∀ i : Nat, xs[i]? = some x → ∃ j : Nat, xs[j]? = some x ∧ (Instr.lookup t (.map (some b)) (.int .i64 x) false).run Try.prog w = .ok (f j) w) := by
  have h0 := h
  obtain ⟨es, c, hb, _⟩ := h0
  obtain ⟨f1, f2⟩ := h.find hb x
  constructor
  · intro hn
    have := f1 hn
    simp [Instr.lookup, Instr.findKey, Sem.run_bind, run_underlying ht, run_underlying Try.underlying3, MapKept.run_getObj_map hb, checkKey_int, this, hz, Result.andThen]
  · intro i hi
    obtain ⟨j, hj, hf⟩ := f2 i hi
    exact ⟨j, hj, by simp [Instr.lookup, Instr.findKey, Sem.run_bind, run_underlying ht, run_underlying Try.underlying3, MapKept.run_getObj_map hb, checkKey_int, hf, Result.andThen]⟩

/-- What an insertion leaves. -/
theorem run_insert_ints (ht : Try.prog.underlying t = some (.map 3 e)) (h : IsMap w b xs f) (x : Int) (v : Value) (hx : x ∉ xs) :
    ∃ o, (Instr.mapUpdate t (.map (some b)) (.int .i64 x) v).run Try.prog w = .ok () (w.putObj b o) ∧ IsMap (w.putObj b o) b (xs ++ [x]) (fun i => if i = xs.length then v else f i) := by
  have h0 := h
  obtain ⟨es, c, hb, hs, hall⟩ := h0
  obtain ⟨f1, _⟩ := h.find hb x
  have hf := f1 hx
  refine ⟨.map (es.push { key := .int .i64 x, val := v, born := c }) (c + 1), ?_, ?_⟩
  · simp [Instr.mapUpdate, Instr.findKey, Sem.run_bind, run_underlying ht, run_underlying Try.underlying3, MapKept.run_getObj_map hb, MapKept.run_setObj_map _ hb, checkKey_int, hf, Result.andThen, World.putObj]
  · refine ⟨_, _, World.putObj_heap_same (Array.getElem?_eq_some_iff.1 hb).1, by simp [hs], fun i y hy => ?_⟩
    by_cases hi : i < xs.length
    · rw [List.getElem?_append_left hi] at hy
      obtain ⟨e', he, hk, hv⟩ := hall i y hy
      refine ⟨e', ?_, hk, ?_⟩
      · rw [Array.getElem?_push_lt (by omega)]; rw [Array.getElem?_eq_getElem (by omega)] at he; exact he
      · show _ = if i = xs.length then v else f i
        rw [if_neg (by omega)]; exact hv
    · have hi' : i = xs.length := by
        have := (List.getElem?_eq_some_iff.1 hy).1
        simp at this; omega
      subst hi'
      simp at hy
      subst hy
      refine ⟨{ key := .int .i64 x, val := v, born := c }, ?_, rfl, by simp⟩
      rw [← hs]; simp
end

theorem wp_lookup_run {o : Oper} {a : Act} {w : World} {K : Act → World → Prop} {Q : Exit → Act → World → Prop} (t : TypeId) (m x : Operand) (ho : o.op = .lookup t m x false) {vm vx v : Value} (hm : a.eval m = vm) (hx : a.eval x = vx)
    (hr : (Instr.lookup t vm vx false).run Try.prog w = .ok v w) (h : K (a.put o.dst v) w) : o.wp Try.prog a w K Q := by
  unfold Oper.wp execOp
  simp only [ho, Sem.run_bind, Sem.run_pure, Result.andThen_ok, hm, hx, hr]
  exact h

theorem wp_mapUpdate_run {o : Oper} {a : Act} {w w' : World} {K : Act → World → Prop} {Q : Exit → Act → World → Prop} (t : TypeId) (m x y : Operand) (ho : o.op = .mapUpdate t m x y) {vm vx vy : Value} (hm : a.eval m = vm) (hx : a.eval x = vx) (hy : a.eval y = vy)
    (hr : (Instr.mapUpdate t vm vx vy).run Try.prog w = .ok () w') (hd : o.dst = none) (h : K a w') : o.wp Try.prog a w K Q := by
  unfold Oper.wp execOp
  simp only [ho, Sem.run_bind, Sem.run_pure, Result.andThen_ok, hm, hx, hy, hr]
  show K (a.put o.dst undef) w'
  rw [hd]
  exact h

/-- A call of a function value. -/
theorem wp_call_closure {o : Oper} {a : Act} {w : World} {K : Act → World → Prop} {Q : Exit → Act → World → Prop} (f x : Operand) {ts : Array TypeId} (ho : o.op = .call { callee := .value f, args := #[x], argTypes := ts }) {g : Nat} {lb : Array Value} {v : Value}
    (hf : a.eval f = .func (.func g) #[] lb) (hx : a.eval x = v) (eg : ∀ args w, (callFunc g args).run Try.prog w = .ok (.enter g args) w)
    (h : Calls Try.prog g (#[v] ++ lb) w fun e w' => ∃ u, e = .returned u ∧ K (a.put o.dst u) w') : o.wp Try.prog a w K Q := by
  unfold Oper.wp execOp
  simp only [ho, resolve, hf, hx, List.map_toArray, List.map_cons, List.map_nil]
  simp [go_sem, eg, invoke, Oper.upon]
  refine h.mono ?_
  rintro e w' ⟨u, rfl, hk⟩
  exact hk
end Go.Proofs.Ythjokcjdphempaa
