/- New. -/
import Derived.Test.YthjokcjdphempaaDumpm
namespace Go.Proofs.Ythjokcjdphempaa
open Go.RowKit Hp Go.Shelf

/-- A heap that has just been made. -/
def newHS (room young : Int) : HS := ⟨0, 0, 0, 0, 0, 0, room, young, [], [], [], 0, [], [], false, 0, 0⟩

def nilLay : Lay := ⟨fun _ => .slice none 0 0⟩

theorem search_nil : (⟨[], []⟩ : AHeap).search = [] := by decide

theorem new_good {room young : Int} (h1 : 256 ≤ room) (h2 : room ≤ 65536) (h3 : 16 ≤ young) (h4 : young ≤ room / 16) : Good (newHS room young) ⟨[], []⟩ 0 := by
  have hno : ∀ m, ¬ Hp.Reach ⟨[], []⟩ m := by
    intro m h
    induction h with
    | slot h => cases h
    | ref _ hb ih => exact ih
  have hlive : (⟨[], []⟩ : AHeap).live = 0 := by unfold AHeap.live; rw [search_nil]; rfl
  refine ⟨⟨fun _ => [], fun _ => 0, ?_⟩, by show (0 : Nat) ≤ 8001; omega, by show (0 : Int) + 0 ≤ _; omega, Nat.le_refl _, by show (0 : Nat) ≤ 4096; omega, by rw [hlive]; exact Int.le_refl _, by show (0 : Int) ≤ room; omega, ⟨Int.le_refl _, Int.le_refl _⟩, by omega⟩
  exact {
    rep := {
      wf := ⟨fun n hn => (by cases hn), fun o ho => (by cases ho)⟩
      now := by show (0 : Nat) < 2; omega
      flat := fun k hk => by obtain rfl | rfl | rfl : k = 0 ∨ k = 1 ∨ k = 2 := by omega
                             all_goals rfl
      objs := fun k _ o ho => by cases ho
      slen := rfl
      slot := fun i x n hx => by cases hx
      obj := fun m hm => (hno m hm).elim
      inj := fun m m' hm => (hno m hm).elim
      fits := fun m hm => (hno m hm).elim }
    room1 := h1
    room2 := h2
    young1 := h3
    young2 := h4
    ylen := by show ((([] : List Int).length : Nat) : Int) ≤ young; simp; omega
    idle := fun _ => ⟨rfl, rfl⟩
    busyN := List.nodup_nil
    busyO := fun r hr => by cases hr
    busyR := fun _ m hm => (hno m hm).elim
    sum := by show ((0 : Nat) : Int) ≤ room; omega
    words0 := Int.le_refl _
    copied0 := Int.le_refl _
    lens := fun k hk => by obtain rfl | rfl | rfl : k = 0 ∨ k = 1 ∨ k = 2 := by omega
                           all_goals exact Int.le_refl _
    live := by rw [hlive]; show ((0 : Nat) : Int) ≤ room; omega }

theorem new_rep {w : World} {hb : Nat} {room young : Int} (h : w.heap[hb]? = some (.cells (headCells nilLay (newHS room young)) 60 (0, 0))) : HRep w hb nilLay (newHS room young) := by
  refine ⟨h, fun i hi => .inl ⟨rfl, ?_⟩, fun i _ e => (by cases e), fun i j _ _ _ => .inl rfl⟩
  obtain rfl | rfl | rfl | rfl | rfl : i = 0 ∨ i = 1 ∨ i = 2 ∨ i = 3 ∨ i = 4 := by omega
  all_goals rfl

set_option maxRecDepth 100000 in
set_option maxHeartbeats 1000000 in
theorem New_yes {room young : Int} {w : World} (h1 : 256 ≤ room) (h2 : room ≤ 65536) (h3 : 16 ≤ young) (h4 : young ≤ room / 16) :
    Calls Try.prog 26 #[.agg #[.int .i64 room, .int .i64 young]] w fun e w' => ∃ hb, e = .returned (.tuple #[.pointer (some ⟨hb, 0, none⟩), .int .i64 0]) ∧ w.heap.size ≤ hb ∧ w'.heap[hb]? = some (.cells (headCells nilLay (newHS room young)) 60 (0, 0)) ∧ Fr (fun _ => False) w w' := by
  have hq : room.tdiv 16 = room / 16 := Int.tdiv_eq_ediv_of_nonneg (by omega)
  obtain ⟨q, hqq⟩ : ∃ q, q = room / 16 := ⟨_, rfl⟩
  rw [← hqq] at hq h4
  have hq1 : -9223372036854775808 ≤ q := by omega
  have hq2 : q ≤ 9223372036854775807 := by omega
  clear hqq
  go_enter Try.func26, Try.ntmps26
  go_wp2
  go_ret2
  have F := (fr_alloc1 w (.cells #[.int .i64 room, .int .i64 young] 57)).trans (fr_alloc1 (w.alloc (.cells #[.int .i64 room, .int .i64 young] 57)) (.cells (headCells nilLay (newHS room young)) 60)) fun _ h => h.elim
  have hn := World.alloc_heap_new (w.alloc (.cells #[.int .i64 room, .int .i64 young] 57)) (.cells (headCells nilLay (newHS room young)) 60)
  have hs : (w.alloc (.cells #[.int .i64 room, .int .i64 young] 57)).heap.size = w.heap.size + 1 := by simp
  rw [hs] at hn
  exact ⟨w.heap.size + 1, rfl, by omega, hn, F⟩

set_option maxRecDepth 100000 in
set_option maxHeartbeats 1000000 in
theorem New_no {w : World} : Calls Try.prog 26 #[.agg #[.int .i64 256, .int .i64 17]] w fun e w' => e = .returned (.tuple #[.pointer none, .int .i64 1]) ∧ Fr (fun _ => False) w w' := by
  have hq : (256 : Int).tdiv 16 = 16 := by decide
  go_enter Try.func26, Try.ntmps26
  go_wp2
  go_ret2
  exact ⟨rfl, fr_alloc1 _ _⟩
end Go.Proofs.Ythjokcjdphempaa
