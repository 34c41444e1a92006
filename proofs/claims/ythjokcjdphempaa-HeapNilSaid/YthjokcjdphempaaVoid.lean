/- The methods on no heap, and on a zero one. -/
import Derived.Test.YthjokcjdphempaaSane
import Derived.BigQuiet
namespace Go.Proofs.Ythjokcjdphempaa
open Go.RowKit Hp Go.Shelf

def zeroCells : Array Value := headCells nilLay (newHS 0 0)

/-- No heap, or a zero one. -/
def Void (hp : Option Addr) (w : World) : Prop := hp = none ∨ ∃ hb, hp = some ⟨hb, 0, none⟩ ∧ w.heap[hb]? = some (.cells zeroCells 60 (0, 0))

theorem Void.of_fr {hp : Option Addr} {w w' : World} (h : Void hp w) (hf : Fr (fun _ => False) w w') : Void hp w' := by
  rcases h with h | ⟨hb, e, h⟩
  · exact .inl h
  · exact .inr ⟨hb, e, by rw [hf.block hb (Array.getElem?_eq_some_iff.1 h).1 id]; exact h⟩

theorem Void.call {hp : Option Addr} {w : World} (h : Void hp w) (f : Value) : Calls Try.prog 37 #[.pointer hp, f] w fun e w' => e = .returned (.int .i64 9) ∧ Fr (fun _ => False) w w' := by
  rcases h with rfl | ⟨hb, rfl, h⟩
  · exact call_nil f w
  · exact call_zero f w (by simp only [World.cell?, h]; rfl) (Array.getElem?_eq_some_iff.1 h).1

/-- A method without a result in a box. -/
theorem Void.meth {hp : Option Addr} {w : World} (os : List Obj) (h : Void hp w) (f : Value) : Calls Try.prog 37 #[.pointer hp, f] (allocs w os) fun e w' => ∃ x, e = .returned (.int .i64 x) ∧ (x = 9 ∧ Fr (fun _ => False) w w') := by
  obtain ⟨f0, _, _⟩ := allocs_spec os w
  refine ((h.of_fr f0).call f).mono ?_
  rintro e w' ⟨rfl, hf⟩
  exact ⟨9, rfl, rfl, f0.trans hf fun _ h => h.elim⟩

/-- A method with a result in the box at place i. -/
theorem Void.methX {hp : Option Addr} {w : World} (os : List Obj) (i : Nat) {v : Value} {t : TypeId} (hi : os[i]? = some (.cells #[v] t)) (h : Void hp w) (f : Value) : Calls Try.prog 37 #[.pointer hp, f] (allocs w os) fun e w' => e = .returned (.int .i64 9) ∧ w'.heap[w.heap.size + i]? = some (.cells #[v] t (0, 0)) ∧ Fr (fun _ => False) w w' := by
  obtain ⟨f0, h2, h3⟩ := allocs_spec os w
  refine ((h.of_fr f0).call f).mono ?_
  rintro e w' ⟨rfl, hf⟩
  have hl := (List.getElem?_eq_some_iff.1 hi).1
  exact ⟨rfl, by rw [hf.block _ (by omega) id]; exact h3 i _ hi, f0.trans hf fun _ h => h.elim⟩

theorem Fr.box {w W w' : World} {rx : Nat} {v : Value} (h : Fr (fun _ => False) w W) (hrx : w.heap.size ≤ rx) (hw : Eqw (W.setCell ⟨rx, 0, none⟩ v) w') : Fr (fun _ => False) w w' :=
  (h.trans (fr_setCell W rx 0 v) fun j hj => .inr (by omega)).trans (hw.fr (fun _ => False)) fun _ h => h.elim

theorem Grow_void {hp : Option Addr} {n : Int} {w : World} (h : Void hp w) : Calls Try.prog 27 #[.pointer hp, .int .i64 n] w fun e w' => e = .returned (.int .i64 9) ∧ Fr (fun _ => False) w w' := by
  refine (Grow_w (R := fun x w' => x = 9 ∧ Fr (fun _ => False) w w') (h.meth [.cells #[.pointer hp] 23, .cells #[.int .i64 n] 3] _)).mono ?_
  rintro e w' ⟨x, rfl, rfl, hf⟩
  exact ⟨rfl, hf⟩

theorem Shrink_void {hp : Option Addr} {n : Int} {w : World} (h : Void hp w) : Calls Try.prog 24 #[.pointer hp, .int .i64 n] w fun e w' => e = .returned (.int .i64 9) ∧ Fr (fun _ => False) w w' := by
  refine (Shrink_w (R := fun x w' => x = 9 ∧ Fr (fun _ => False) w w') (h.meth [.cells #[.pointer hp] 23, .cells #[.int .i64 n] 3] _)).mono ?_
  rintro e w' ⟨x, rfl, rfl, hf⟩
  exact ⟨rfl, hf⟩

theorem Make_void {hp : Option Addr} {to tag refs raws : Int} {w : World} (h : Void hp w) : Calls Try.prog 14 #[.pointer hp, .int .i64 to, .int .i64 tag, .int .i64 refs, .int .i64 raws] w fun e w' => e = .returned (.int .i64 9) ∧ Fr (fun _ => False) w w' := by
  refine (Make_w (R := fun x w' => x = 9 ∧ Fr (fun _ => False) w w') (h.meth [.cells #[.pointer hp] 23, .cells #[.int .i64 to] 3, .cells #[.int .i64 tag] 3, .cells #[.int .i64 refs] 3, .cells #[.int .i64 raws] 3] _)).mono ?_
  rintro e w' ⟨x, rfl, rfl, hf⟩
  exact ⟨rfl, hf⟩

theorem Copy_void {hp : Option Addr} {to fr : Int} {w : World} (h : Void hp w) : Calls Try.prog 33 #[.pointer hp, .int .i64 to, .int .i64 fr] w fun e w' => e = .returned (.int .i64 9) ∧ Fr (fun _ => False) w w' := by
  refine (Copy_w (R := fun x w' => x = 9 ∧ Fr (fun _ => False) w w') (h.meth [.cells #[.pointer hp] 23, .cells #[.int .i64 to] 3, .cells #[.int .i64 fr] 3] _)).mono ?_
  rintro e w' ⟨x, rfl, rfl, hf⟩
  exact ⟨rfl, hf⟩

theorem Clear_void {hp : Option Addr} {k : Int} {w : World} (h : Void hp w) : Calls Try.prog 34 #[.pointer hp, .int .i64 k] w fun e w' => e = .returned (.int .i64 9) ∧ Fr (fun _ => False) w w' := by
  refine (Clear_w (R := fun x w' => x = 9 ∧ Fr (fun _ => False) w w') (h.meth [.cells #[.pointer hp] 23, .cells #[.int .i64 k] 3] _)).mono ?_
  rintro e w' ⟨x, rfl, rfl, hf⟩
  exact ⟨rfl, hf⟩

theorem Get_void {hp : Option Addr} {to of k : Int} {w : World} (h : Void hp w) : Calls Try.prog 30 #[.pointer hp, .int .i64 to, .int .i64 of, .int .i64 k] w fun e w' => e = .returned (.int .i64 9) ∧ Fr (fun _ => False) w w' := by
  refine (Get_w (R := fun x w' => x = 9 ∧ Fr (fun _ => False) w w') (h.meth [.cells #[.pointer hp] 23, .cells #[.int .i64 to] 3, .cells #[.int .i64 of] 3, .cells #[.int .i64 k] 3] _)).mono ?_
  rintro e w' ⟨x, rfl, rfl, hf⟩
  exact ⟨rfl, hf⟩

theorem Set_void {hp : Option Addr} {of k fr : Int} {w : World} (h : Void hp w) : Calls Try.prog 28 #[.pointer hp, .int .i64 of, .int .i64 k, .int .i64 fr] w fun e w' => e = .returned (.int .i64 9) ∧ Fr (fun _ => False) w w' := by
  refine (Set_w (R := fun x w' => x = 9 ∧ Fr (fun _ => False) w w') (h.meth [.cells #[.pointer hp] 23, .cells #[.int .i64 of] 3, .cells #[.int .i64 k] 3, .cells #[.int .i64 fr] 3] _)).mono ?_
  rintro e w' ⟨x, rfl, rfl, hf⟩
  exact ⟨rfl, hf⟩

theorem Store_void {hp : Option Addr} {of k v : Int} {w : World} (h : Void hp w) : Calls Try.prog 29 #[.pointer hp, .int .i64 of, .int .i64 k, .int .i64 v] w fun e w' => e = .returned (.int .i64 9) ∧ Fr (fun _ => False) w w' := by
  refine (Store_w (R := fun x w' => x = 9 ∧ Fr (fun _ => False) w w') (h.meth [.cells #[.pointer hp] 23, .cells #[.int .i64 of] 3, .cells #[.int .i64 k] 3, .cells #[.int .i64 v] 3] _)).mono ?_
  rintro e w' ⟨x, rfl, rfl, hf⟩
  exact ⟨rfl, hf⟩

theorem Step_void {hp : Option Addr} {n : Int} {w : World} (h : Void hp w) : Calls Try.prog 19 #[.pointer hp, .int .i64 n] w fun e w' => e = .returned (.int .i64 9) ∧ Fr (fun _ => False) w w' := by
  refine (Step_w (R := fun x w' => x = 9 ∧ Fr (fun _ => False) w w') (h.meth [.cells #[.pointer hp] 23, .cells #[.int .i64 n] 3] _)).mono ?_
  rintro e w' ⟨x, rfl, rfl, hf⟩
  exact ⟨rfl, hf⟩

theorem Minor_void {hp : Option Addr} {w : World} (h : Void hp w) : Calls Try.prog 22 #[.pointer hp] w fun e w' => e = .returned (.int .i64 9) ∧ Fr (fun _ => False) w w' := by
  refine (Minor_w (R := fun x w' => x = 9 ∧ Fr (fun _ => False) w w') (h.meth [.cells #[.pointer hp] 23] _)).mono ?_
  rintro e w' ⟨x, rfl, rfl, hf⟩
  exact ⟨rfl, hf⟩

theorem Load_void {hp : Option Addr} {of k : Int} {w : World} (h : Void hp w) : Calls Try.prog 32 #[.pointer hp, .int .i64 of, .int .i64 k] w fun e w' => e = .returned (.tuple #[.int .i64 0, .int .i64 9]) ∧ Fr (fun _ => False) w w' := by
  refine (Load_w (R := fun x y w' => x = 9 ∧ y = 0 ∧ Fr (fun _ => False) w w') ((h.methX [.cells #[.pointer hp] 23, .cells #[.int .i64 of] 3, .cells #[.int .i64 k] 3, .cells #[.int .i64 0] 3] 3 rfl _).mono ?_)).mono ?_
  · rintro e w' ⟨rfl, hb, hf⟩
    exact ⟨9, 0, rfl, (cell_of_box hb).1, (cell_of_box hb).2, rfl, rfl, hf⟩
  · rintro e w' ⟨W, x, y, rfl, ⟨rfl, rfl, hf⟩, hw⟩
    exact ⟨rfl, hf.box (by omega) hw⟩

theorem Empty_void {hp : Option Addr} {k : Int} {w : World} (h : Void hp w) : Calls Try.prog 35 #[.pointer hp, .int .i64 k] w fun e w' => e = .returned (.tuple #[.bool false, .int .i64 9]) ∧ Fr (fun _ => False) w w' := by
  refine (Empty_w (R := fun x y w' => x = 9 ∧ y = false ∧ Fr (fun _ => False) w w') ((h.methX [.cells #[.pointer hp] 23, .cells #[.int .i64 k] 3, .cells #[.bool false] 4] 2 rfl _).mono ?_)).mono ?_
  · rintro e w' ⟨rfl, hb, hf⟩
    exact ⟨9, false, rfl, (cell_of_box hb).1, (cell_of_box hb).2, rfl, rfl, hf⟩
  · rintro e w' ⟨W, x, y, rfl, ⟨rfl, rfl, hf⟩, hw⟩
    exact ⟨rfl, hf.box (by omega) hw⟩

theorem Alike_void {hp : Option Addr} {a b : Int} {w : World} (h : Void hp w) : Calls Try.prog 31 #[.pointer hp, .int .i64 a, .int .i64 b] w fun e w' => e = .returned (.tuple #[.bool false, .int .i64 9]) ∧ Fr (fun _ => False) w w' := by
  refine (Alike_w (R := fun x y w' => x = 9 ∧ y = false ∧ Fr (fun _ => False) w w') ((h.methX [.cells #[.pointer hp] 23, .cells #[.int .i64 a] 3, .cells #[.int .i64 b] 3, .cells #[.bool false] 4] 3 rfl _).mono ?_)).mono ?_
  · rintro e w' ⟨rfl, hb, hf⟩
    exact ⟨9, false, rfl, (cell_of_box hb).1, (cell_of_box hb).2, rfl, rfl, hf⟩
  · rintro e w' ⟨W, x, y, rfl, ⟨rfl, rfl, hf⟩, hw⟩
    exact ⟨rfl, hf.box (by omega) hw⟩

theorem Live_void {hp : Option Addr} {w : World} (h : Void hp w) : Calls Try.prog 12 #[.pointer hp] w fun e w' => e = .returned (.int .i64 0) ∧ Fr (fun _ => False) w w' := by
  refine (Live_w (R := fun x y w' => x = 9 ∧ y = 0 ∧ Fr (fun _ => False) w w') ((h.methX [.cells #[.pointer hp] 23, .cells #[.int .i64 0] 3] 1 rfl _).mono ?_)).mono ?_
  · rintro e w' ⟨rfl, hb, hf⟩
    exact ⟨9, 0, rfl, (cell_of_box hb).1, (cell_of_box hb).2, rfl, rfl, hf⟩
  · rintro e w' ⟨W, x, y, rfl, ⟨rfl, rfl, hf⟩, hw⟩
    exact ⟨rfl, hf.box (by omega) hw⟩

end Go.Proofs.Ythjokcjdphempaa

namespace Go.Proofs.Ythjokcjdphempaa
open Go.RowKit Hp Go.Shelf

/-- only(x). -/
def onlyV (x : Int) : Value := .agg #[.int .i64 0, .int .i64 0, .int .i64 0, .int .i64 x]

/-- A new block of four cells is read. -/
theorem new_cells (w : World) (vs : Array Value) (t : TypeId) (k : Nat) {v : Value} (h : vs[k]? = some v) : (w.alloc (.cells vs t)).cell? ⟨w.heap.size, k, none⟩ = some v := by
  simp only [World.cell?, World.alloc_heap_new, Option.isSome_none, Bool.false_eq_true, if_false]
  exact h

set_option maxRecDepth 100000 in
set_option maxHeartbeats 1000000 in
theorem only_any {x : Int} {w : World} : Calls Try.prog 25 #[.int .i64 x] w fun e w' => e = .returned (.agg #[.int .i64 0, .int .i64 0, .int .i64 0, .int .i64 x]) ∧ Fr (fun _ => False) w w' := by
  go_enter Try.func25, Try.ntmps25
  go_wp2
  have c := new_cells w #[.int .i64 0, .int .i64 0, .int .i64 0, .int .i64 x] 30
  have c0 := c 0 (v := .int .i64 0) rfl
  have c1 := c 1 (v := .int .i64 0) rfl
  have c2 := c 2 (v := .int .i64 0) rfl
  have c3 := c 3 (v := .int .i64 x) rfl
  clear c
  refine ⟨rfl, onlyV x, ?_, rfl, fr_alloc1 _ _⟩
  simp [results, Try.results25, go_sem, c0, c1, c2, c3, onlyV]

theorem Void.cases {hp : Option Addr} {w : World} (h : Void hp w) : hp = none ∨ ∃ hb, hp = some ⟨hb, 0, none⟩ ∧ HRep w hb nilLay (newHS 0 0) := by
  rcases h with h | ⟨hb, e, h⟩
  · exact .inl h
  · exact .inr ⟨hb, e, new_rep h⟩

set_option maxRecDepth 100000 in
set_option maxHeartbeats 1000000 in
theorem Slots_void {hp : Option Addr} {w : World} (h : Void hp w) : Calls Try.prog 15 #[.pointer hp] w fun e w' => e = .returned (.int .i64 0) ∧ Fr (fun _ => False) w w' := by
  rcases h.cases with rfl | ⟨hb, rfl, hr⟩
  · clear h
    go_enter Try.func15, Try.ntmps15
    go_wp2
    go_ret
    exact ⟨rfl, Fr.refl _ _⟩
  · have h12 : w.cell? ⟨hb, 12, none⟩ = some (.slice none 0 0) := hr.cell rfl
    have h0 : w.cell? ⟨hb, 0, none⟩ = some (.int .i64 0) := hr.cell rfl
    have hl : hb < w.heap.size := (Array.getElem?_eq_some_iff.1 hr.blk).1
    clear h hr
    go_enter Try.func15, Try.ntmps15
    go_wp2
    go_ret
    exact ⟨rfl, Fr.refl _ _⟩

def statV : Value := .agg #[.int .i64 0, .int .i64 0, .int .i64 0, .int .i64 0, .int .i64 0, .int .i64 0]

set_option maxRecDepth 100000 in
set_option maxHeartbeats 1000000 in
theorem Stat_void {hp : Option Addr} {w : World} (h : Void hp w) : Calls Try.prog 18 #[.pointer hp] w fun e w' => e = .returned statV ∧ Fr (fun _ => False) w w' := by
  have c := new_cells w #[.int .i64 0, .int .i64 0, .int .i64 0, .int .i64 0, .int .i64 0, .int .i64 0] 46
  have c0 := c 0 (v := .int .i64 0) rfl
  have c1 := c 1 (v := .int .i64 0) rfl
  have c2 := c 2 (v := .int .i64 0) rfl
  have c3 := c 3 (v := .int .i64 0) rfl
  have c4 := c 4 (v := .int .i64 0) rfl
  have c5 := c 5 (v := .int .i64 0) rfl
  clear c
  rcases h.cases with rfl | ⟨hb, rfl, hr⟩
  · clear h
    go_enter Try.func18, Try.ntmps18
    go_wp2
    refine ⟨rfl, statV, ?_, rfl, fr_alloc1 _ _⟩
    simp [results, Try.results18, go_sem, c0, c1, c2, c3, c4, c5, statV]
  · have hl : hb < w.heap.size := (Array.getElem?_eq_some_iff.1 hr.blk).1
    have d : ∀ k v, w.cell? ⟨hb, k, none⟩ = some v → (w.alloc (.cells #[.int .i64 0, .int .i64 0, .int .i64 0, .int .i64 0, .int .i64 0, .int .i64 0] 46)).cell? ⟨hb, k, none⟩ = some v := fun k v h => by
      simp only [World.cell?, Below.heap_alloc w _ hb hl] at h ⊢
      exact h
    have h0 := d 0 (.int .i64 0) (hr.cell rfl)
    have h1 := d 1 (.int .i64 0) (hr.cell rfl)
    have h2 := d 2 (.int .i64 0) (hr.cell rfl)
    have h3 := d 3 (.int .i64 0) (hr.cell rfl)
    have h4 := d 4 (.int .i64 0) (hr.cell rfl)
    have h5 := d 5 (.int .i64 0) (hr.cell rfl)
    have g0 : w.cell? ⟨hb, 0, none⟩ = some (.int .i64 0) := hr.cell rfl
    clear h hr d
    go_enter Try.func18, Try.ntmps18
    go_wp2
    refine ⟨rfl, statV, ?_, rfl, fr_alloc1 _ _⟩
    simp [results, Try.results18, go_sem, c0, c1, c2, c3, c4, c5, statV]

set_option maxRecDepth 100000 in
set_option maxHeartbeats 1000000 in
theorem Used_void {hp : Option Addr} {w : World} (h : Void hp w) : Calls Try.prog 21 #[.pointer hp] w fun e w' => e = .returned (.tuple #[.int .i64 0, .int .i64 0]) ∧ Fr (fun _ => False) w w' := by
  rcases h.cases with rfl | ⟨hb, rfl, hr⟩
  · clear h
    go_enter Try.func21, Try.ntmps21
    go_wp2
    go_ret2
    exact ⟨rfl, Fr.refl _ _⟩
  · have h8 : w.cell? ⟨hb, 8, none⟩ = some (.slice none 0 0) := hr.cell rfl
    have h9 : w.cell? ⟨hb, 9, none⟩ = some (.slice none 0 0) := hr.cell rfl
    have h10 : w.cell? ⟨hb, 10, none⟩ = some (.slice none 0 0) := hr.cell rfl
    have h0 : w.cell? ⟨hb, 0, none⟩ = some (.int .i64 0) := hr.cell rfl
    have hl : hb < w.heap.size := (Array.getElem?_eq_some_iff.1 hr.blk).1
    clear h hr
    go_enter Try.func21, Try.ntmps21
    go_wp2
    go_quiet (fail)
    go_wp2
    go_ret2
    exact ⟨rfl, (Fr.refl _ _).drewN _⟩

set_option maxRecDepth 100000 in
set_option maxHeartbeats 1000000 in
theorem truth_no {w : World} : Calls Try.prog 36 #[.bool false] w fun e w' => e = .returned (.int .i64 0) ∧ w' = w := by
  go_enter Try.func36, Try.ntmps36
  go_wp2
  go_ret
  exact ⟨rfl, rfl⟩

theorem Dump_void {hp : Option Addr} {w : World} (h : Void hp w) : Calls Try.prog 13 #[.pointer hp] w fun e w' => e = .returned (.agg #[.slice none 0 0, .slice none 0 0]) ∧ Fr (fun _ => False) w w' := by
  have hf0 : Fr (fun _ => False) w ((w.alloc (.cells #[.pointer hp] 23)).alloc (.cells #[.slice none 0 0, .slice none 0 0] 38)) := (fr_alloc1 _ _).trans (fr_alloc1 _ _) fun _ h => h.elim
  have hn : ((w.alloc (.cells #[.pointer hp] 23)).alloc (.cells #[.slice none 0 0, .slice none 0 0] 38)).heap[w.heap.size + 1]? = some (.cells #[.slice none 0 0, .slice none 0 0] 38 (0, 0)) := by
    have := World.alloc_heap_new (w.alloc (.cells #[.pointer hp] 23)) (.cells #[.slice none 0 0, .slice none 0 0] 38)
    rw [show (w.alloc (.cells #[.pointer hp] 23)).heap.size = w.heap.size + 1 by simp] at this
    exact this
  refine (Dump_w (R := fun _ w' => Fr (fun _ => False) w w' ∧ w'.heap[w.heap.size + 1]? = some (.cells #[.slice none 0 0, .slice none 0 0] 38 (0, 0))) (((h.of_fr hf0).call _).mono ?_)).mono ?_
  · rintro e w' ⟨rfl, hf⟩
    have hx : w'.heap[w.heap.size + 1]? = some (.cells #[.slice none 0 0, .slice none 0 0] 38 (0, 0)) := by
      rw [hf.block _ (Array.getElem?_eq_some_iff.1 hn).1 id]; exact hn
    exact ⟨9, none, 0, 0, none, 0, 0, rfl, by simp only [World.cell?, hx]; rfl, by simp only [World.cell?, hx]; rfl, by simp [World.frozen?, hx], by simp [World.frozen?, hx], hf0.trans hf fun _ h => h.elim, hx⟩
  · rintro e w' ⟨W, x, a1, n1, k1, a2, n2, k2, rfl, ⟨hf, hx⟩, c1, c2, hE⟩
    have e1 : Value.slice a1 n1 k1 = .slice none 0 0 := by simp only [World.cell?, hx] at c1; exact (Option.some.inj c1).symm
    have e2 : Value.slice a2 n2 k2 = .slice none 0 0 := by simp only [World.cell?, hx] at c2; exact (Option.some.inj c2).symm
    refine ⟨by rw [e1, e2], ?_⟩
    have f1 := (hf.trans (fr_setCell W (w.heap.size + 1) 0 (.slice a1 n1 k1)) fun j hj => .inr (by omega)).trans (fr_setCell _ (w.heap.size + 1) 1 (.slice a2 n2 k2)) fun j hj => .inr (by omega)
    exact f1.trans (hE.fr (fun _ => False)) fun _ h => h.elim

theorem setCell_same {w : World} {b : Nat} {v : Value} {t : TypeId} (h : w.heap[b]? = some (.cells #[v] t (0, 0))) : w.setCell ⟨b, 0, none⟩ v = w := by
  have := setCell_id h
  cases w
  simp only [World.setCell] at this ⊢
  split <;> simp_all

set_option maxRecDepth 100000 in
set_option maxHeartbeats 1000000 in
theorem Shape_void {hp : Option Addr} {n : Int} {w : World} (h : Void hp w) : Calls Try.prog 17 #[.pointer hp, .int .i64 n] w fun e w' => e = .returned (.tuple #[.int .i64 0, .int .i64 0, .int .i64 0, .int .i64 9]) ∧ Fr (fun _ => False) w w' := by
  have hmf : ∀ (fn : Fn) (first cap : Array Value) (w : World), (Instr.makeFunc fn first cap).run Try.prog w = .ok (.func fn first cap) w := fun _ _ _ _ => rfl
  have hf0 : Fr (fun _ => False) w (((((w.alloc (.cells #[.pointer hp] 23)).alloc (.cells #[.int .i64 n] 3)).alloc (.cells #[.int .i64 0] 3)).alloc (.cells #[.int .i64 0] 3)).alloc (.cells #[.int .i64 0] 3)) := ((((fr_alloc1 _ _).trans (fr_alloc1 _ _) fun _ h => h.elim).trans (fr_alloc1 _ _) fun _ h => h.elim).trans (fr_alloc1 _ _) fun _ h => h.elim).trans (fr_alloc1 _ _) fun _ h => h.elim
  have HH := Lib.hid (And.intro h hf0)
  clear h hf0
  go_enter Try.func17, Try.ntmps17
  go_wp2_with (go_at_call 37; refine ((HH.out.1.of_fr HH.out.2).call _).mono ?_; rintro e w9 ⟨rfl, hx⟩; have HX := Lib.hid hx; clear hx)
  obtain ⟨_, _, h3⟩ := allocs_spec [.cells #[.pointer hp] 23, .cells #[.int .i64 n] 3, .cells #[.int .i64 0] 3, .cells #[.int .i64 0] 3, .cells #[.int .i64 0] 3] w
  have g : ∀ i, 2 ≤ i → i < 5 → w9.heap[w.heap.size + i]? = some (.cells #[.int .i64 0] 3 (0, 0)) := by
    intro i h1 h2
    rw [HX.out.block _ (by simp; omega) id]
    obtain rfl | rfl | rfl : i = 2 ∨ i = 3 ∨ i = 4 := by omega
    · exact h3 2 _ rfl
    · exact h3 3 _ rfl
    · exact h3 4 _ rfl
  have g2 := g 2 (by omega) (by omega)
  have g3 := g 3 (by omega) (by omega)
  have g4 := g 4 (by omega) (by omega)
  have s2 := setCell_same g2
  have s3 := setCell_same g3
  have s4 := setCell_same g4
  have c2 := (cell_of_box g2).1
  have c3 := (cell_of_box g3).1
  have c4 := (cell_of_box g4).1
  have z2 := (cell_of_box g2).2
  have z3 := (cell_of_box g3).2
  have z4 := (cell_of_box g4).2
  have F := Lib.hid (HH.out.2.trans HX.out fun _ h => h.elim)
  clear g g2 g3 g4 h3 HX HH
  have e1 : w.heap.size + 1 + 1 = w.heap.size + 2 := by omega
  have e2 : w.heap.size + 2 + 1 = w.heap.size + 3 := by omega
  have e3 : w.heap.size + 3 + 1 = w.heap.size + 4 := by omega
  simp only [e1, e2, e3]
  clear e1 e2 e3
  go_region
  go_wp2
  refine ⟨rfl, .tuple #[.int .i64 0, .int .i64 0, .int .i64 0, .int .i64 9], ?_, rfl, F.out.drewN 1⟩
  simp [results, Try.results17, go_sem, c2, c3, c4]

theorem setCell_same_at {w : World} {a : Addr} {v : Value} {vs : Array Value} {t : TypeId} {b k : Nat} (ha : a = ⟨b, k, none⟩) (h : w.heap[b]? = some (.cells vs t (0, 0))) (hk : vs[k]? = some v) : w.setCell a v = w := by
  subst ha
  have h2 : vs.setIfInBounds k v = vs := by
    apply Array.ext_getElem?
    intro i
    rw [Array.getElem?_setIfInBounds]
    split
    · subst_vars
      split
      · exact hk.symm
      · rename_i h3
        rw [Array.getElem?_eq_none (by omega)]
    · rfl
  have h4 := setCell_block w b k v h
  rw [h2] at h4
  have hh : (w.setCell ⟨b, k, none⟩ v).heap = w.heap := by
    apply Array.ext_getElem?
    intro i
    by_cases hi : i = b
    · rw [hi, h4, h]
    · exact setCell_other w b k v hi
  cases w
  simp only [World.setCell] at hh ⊢
  split <;> simp_all

set_option maxRecDepth 100000 in
set_option maxHeartbeats 1000000 in
theorem Whole_void {hp : Option Addr} {w : World} (h : Void hp w) : Calls Try.prog 23 #[.pointer hp] w fun e w' => e = .returned (.int .i64 9) ∧ Fr (fun _ => False) w w' := by
  have hmf : ∀ (fn : Fn) (first cap : Array Value) (w : World), (Instr.makeFunc fn first cap).run Try.prog w = .ok (.func fn first cap) w := fun _ _ _ _ => rfl
  have hf0 : Fr (fun _ => False) w (w.alloc (.cells #[.pointer hp] 23)) := fr_alloc1 _ _
  have HH := Lib.hid (And.intro h hf0)
  rcases h.cases with rfl | ⟨hb, rfl, hr⟩
  · clear h hf0
    go_enter Try.func23, Try.ntmps23
    go_wp2
    go_ret
    exact ⟨rfl, HH.out.2⟩
  · have hb0 : w.heap[hb]? = some (.cells (headCells nilLay (newHS 0 0)) 60 (0, 0)) := hr.blk
    have hl : hb < w.heap.size := (Array.getElem?_eq_some_iff.1 hr.blk).1
    have d0 : (w.alloc (.cells #[.pointer (some ⟨hb, 0, none⟩)] 23)).cell? ⟨hb, 0, none⟩ = some (.int .i64 0) := by
      simp only [World.cell?, Below.heap_alloc w _ hb hl, hb0]; rfl
    have d3 : (w.alloc (.cells #[.pointer (some ⟨hb, 0, none⟩)] 23)).cell? ⟨hb, 3, none⟩ = some (.int .i64 0) := by
      simp only [World.cell?, Below.heap_alloc w _ hb hl, hb0]; rfl
    have g0 : w.cell? ⟨hb, 0, none⟩ = some (.int .i64 0) := hr.cell rfl
    have g3 : w.cell? ⟨hb, 3, none⟩ = some (.int .i64 0) := hr.cell rfl
    have HB := Lib.hid hb0
    have HN := Lib.hid (World.alloc_heap_new w (.cells #[.pointer (some ⟨hb, 0, none⟩)] 23))
    clear h hf0 hr hb0
    go_enter Try.func23, Try.ntmps23
    go_wp2_with (go_at_call 37; refine ((HH.out.1.of_fr HH.out.2).call _).mono ?_; rintro e w9 ⟨rfl, hx⟩; (have HX := Lib.hid (HH.out.2.trans hx fun _ h => h.elim)); (have qb : w9.heap[hb]? = some (.cells (headCells nilLay (newHS 0 0)) 60 (0, 0)) := (by rw [HX.out.block hb hl id]; exact HB.out)); (have qx : w9.heap[w.heap.size]? = some (.cells #[.pointer (some ⟨hb, 0, none⟩)] 23 (0, 0)) := (by rw [hx.block _ (by simp) id]; exact HN.out)); (have s3 := setCell_same_at (k := 3) (v := .int .i64 0) rfl qb rfl); (have c3 : w9.cell? ⟨hb, 3, none⟩ = some (.int .i64 0) := (by simp only [World.cell?, qb]; rfl)); (have c0 : w9.cell? ⟨hb, 0, none⟩ = some (.int .i64 0) := (by simp only [World.cell?, qb]; rfl)); (have z3 : w9.frozen? ⟨hb, 3, none⟩ = false := (by simp [World.frozen?, qb])); (have cx : w9.cell? ⟨w.heap.size, 0, none⟩ = some (.pointer (some ⟨hb, 0, none⟩)) := (cell_of_box qx).1); clear hx qb qx)
    go_ret
    exact ⟨rfl, HX.out⟩
end Go.Proofs.Ythjokcjdphempaa
