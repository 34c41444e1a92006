/- fits and opened; a heap that was opened, behind acts; how the arguments of the laws are read. -/
import Derived.Test.YthjokcjdphempaaDos
import Derived.Test.YthjokcjdphempaaSane
import Derived.Deep.Slices
import Derived.Deep.Fields
import Derived.ChangeSame
import Derived.Test.YthjokcjdphempaaRows
import Derived.ProofKit
import Derived.OpenShut
import Derived.Below
import Derived.Carry
import Derived.Lib.SmallJoins
namespace Go.Proofs.Ythjokcjdphempaa
open Go.RowKit Hp Go.Shelf Go.ChangeShapes Go.WideShapes Go.Deep

/-- A slice that reads as a list of acts. -/
structure ActAt (w : World) (b o : Nat) (kd a1 a2 a3 a4 : Int) : Prop where
  kd0 : 0 ≤ kd
  kd1 : kd ≤ 255
  c0 : w.cell? ⟨b, o, none⟩ = some (.int .u8 kd)
  c1 : w.cell? ⟨b, o + 1, none⟩ = some (.int .i64 a1)
  c2 : w.cell? ⟨b, o + 2, none⟩ = some (.int .i64 a2)
  c3 : w.cell? ⟨b, o + 3, none⟩ = some (.int .i64 a3)
  c4 : w.cell? ⟨b, o + 4, none⟩ = some (.int .i64 a4)
  i1 : -9223372036854775808 ≤ a1 ∧ a1 ≤ 9223372036854775807
  i2 : -9223372036854775808 ≤ a2 ∧ a2 ≤ 9223372036854775807
  i3 : -9223372036854775808 ≤ a3 ∧ a3 ≤ 9223372036854775807
  i4 : -9223372036854775808 ≤ a4 ∧ a4 ≤ 9223372036854775807

def ActsAt (B : Nat) (w : World) (A : Option Addr) (n : Nat) : Prop :=
  0 < n → ∃ b off, A = some ⟨b, off, none⟩ ∧ b < B ∧ ∀ i, i < n → ∃ kd a1 a2 a3 a4 : Int, ActAt w b (off + i * 5) kd a1 a2 a3 a4

theorem ActAt.of_block {w w' : World} {b o : Nat} {kd a1 a2 a3 a4 : Int} (h : ActAt w b o kd a1 a2 a3 a4) (hb : w'.heap[b]? = w.heap[b]?) : ActAt w' b o kd a1 a2 a3 a4 :=
  ⟨h.kd0, h.kd1, (cell_of_heap hb).trans h.c0, (cell_of_heap hb).trans h.c1, (cell_of_heap hb).trans h.c2, (cell_of_heap hb).trans h.c3, (cell_of_heap hb).trans h.c4, h.i1, h.i2, h.i3, h.i4⟩

theorem ActsAt.keep {B : Nat} {w w' : World} {A : Option Addr} {n : Nat} (h : ActsAt B w A n) (hk : ∀ b, b < B → w'.heap[b]? = w.heap[b]?) : ActsAt B w' A n := fun h0 => by
  obtain ⟨b, off, e, hb, hi⟩ := h h0
  refine ⟨b, off, e, hb, fun i hin => ?_⟩
  obtain ⟨kd, a1, a2, a3, a4, ha⟩ := hi i hin
  exact ⟨kd, a1, a2, a3, a4, ha.of_block (hk b hb)⟩

set_option maxRecDepth 100000 in
set_option maxHeartbeats 2000000 in
theorem fits_any {B n cap : Nat} {A : Option Addr} {w : World} (hA : ActsAt B w A n) (hB : B ≤ w.heap.size) : Calls Try.prog 9 #[.slice A n cap] w fun e w' => (∃ b, e = .returned (.bool b) ∧ (b = true → n ≤ 300)) ∧ Fr (fun _ => False) w w' := by
  by_cases h3 : 300 < n
  · clear hA
    go_enter Try.func9, Try.ntmps9
    go_wp2
    go_ret
    exact ⟨⟨_, rfl, fun h => by cases h⟩, Fr.refl _ _⟩
  have h300 : n ≤ 300 := by omega
  have HA := Lib.hid hA
  clear hA
  go_enter Try.func9, Try.ntmps9
  go_wp2
  go_loopw [3] (fun i wr => ∃ k : Nat, k ≤ n ∧ i = .int .i64 k ∧ Fr (fun _ => False) w wr) (fun i _ => n - (intOf i).toNat)
  case atStart => exact ⟨0, Nat.zero_le _, rfl, Fr.refl _ _⟩
  case round =>
    obtain ⟨k, hk, rfl, hf⟩ := hrel
    by_cases hlt : k < n
    · obtain ⟨b, off, rfl, hbB, hi⟩ := HA.out (by omega)
      obtain ⟨kd, a1, a2, a3, a4, ha⟩ := hi k hlt
      have ha' := ha.of_block (w' := wr) (hf.block b (by omega) id)
      obtain ⟨q0, q1, c0, c1, c2, c3, c4, i1, i2, i3, i4⟩ := ha'
      have HF := Lib.hid hf
      clear hi ha hf HA
      go_wp2
      all_goals first
        | (go_ret; exact ⟨⟨_, rfl, fun _ => h300⟩, HF.out.trans (fr_alloc1 _ _) fun _ h => h.elim⟩)
        | (go_roundw
           case rel => exact ⟨k + 1, by omega, by go_num, HF.out.trans (fr_alloc1 _ _) fun _ h => h.elim⟩
           case measure => simp [intOf]; omega)
    · go_wp2
      go_ret
      exact ⟨⟨_, rfl, fun _ => h300⟩, hf⟩

set_option maxRecDepth 100000 in
set_option maxHeartbeats 2000000 in
/-- New refuses a setup. -/
theorem New_bad {room young : Int} {w : World} (h8 : room ≤ 8192) (h : room < 256 ∨ young < 16 ∨ room / 16 < young) :
    Calls Try.prog 26 #[.agg #[.int .i64 room, .int .i64 young]] w fun e w' => e = .returned (.tuple #[.pointer none, .int .i64 1]) ∧ Fr (fun _ => False) w w' := by
  by_cases h1 : room < 256
  · clear h
    go_enter Try.func26, Try.ntmps26
    go_wp2
    go_ret2
    exact ⟨rfl, fr_alloc1 _ _⟩
  by_cases h2 : young < 16
  · have g1 : 256 ≤ room := by omega
    have g2 : room ≤ 65536 := by omega
    clear h h1 h8
    go_enter Try.func26, Try.ntmps26
    go_wp2
    go_ret2
    exact ⟨rfl, fr_alloc1 _ _⟩
  have hq : room.tdiv 16 = room / 16 := Int.tdiv_eq_ediv_of_nonneg (by omega)
  obtain ⟨q, hqq⟩ : ∃ q, q = room / 16 := ⟨_, rfl⟩
  rw [← hqq] at hq h
  have hq1 : -9223372036854775808 ≤ q := by omega
  have hq2 : q ≤ 9223372036854775807 := by omega
  have g1 : 256 ≤ room := by omega
  have g2 : room ≤ 65536 := by omega
  have g3 : 16 ≤ young := by omega
  have g4 : q < young := by omega
  clear hqq h h1 h2 h8
  go_enter Try.func26, Try.ntmps26
  go_wp2
  go_ret2
  exact ⟨rfl, fr_alloc1 _ _⟩

section
variable {hb : Nat} {L : Lay} {s : HS} {w : World} {A : AHeap} {k : Nat}

/-- Grow, with its accounts. -/
theorem Grow_acc (hr : HRep w hb L s) (hG : Good s A k) {n : Nat} (hn : n + A.slots.length ≤ 4096) :
    Calls Try.prog 27 #[.pointer (some ⟨hb, 0, none⟩), .int .i64 n] w fun e w' => e = .returned (.int .i64 0) ∧ ∃ L' s', HRep w' hb L' s' ∧ Good s' (A.grow n) k ∧ Left hb L L' w w' ∧ Ran True 0 0 A s s' ∧ s'.big = s.big ∧ s'.words = s.words ∧ s'.copied = s.copied := by
  obtain ⟨b1, b2, b3, b4, b5, b6⟩ := hG.bounds
  refine (Grow_w (R := fun x w' => x = 0 ∧ ∃ L' s', HRep w' hb L' s' ∧ Good s' (A.grow n) k ∧ Left hb L L' w w' ∧ Ran True 0 0 A s s' ∧ s'.big = s.big ∧ s'.words = s.words ∧ s'.copied = s.copied) ((meth0 (os := [.cells #[.pointer (some ⟨hb, 0, none⟩)] 23, .cells #[.int .i64 n] 3]) hr hG (enters_of Try.func66 (by kernel_rfl) rfl)
    (R := fun x s1 => x = 0 ∧ Good s1 (A.grow n) k ∧ Idle s s1) ?_).mono ?_)).mono ?_
  · intro Wc hf hrc
    have x0 := box_at hf 0 rfl
    have x1 := box_at hf 1 rfl
    refine (grow_clo hrc (cell_of_box x0).1 (cell_of_box x1).1 (foot_lt hr (by omega)) (foot_lt hr (by omega)) (by omega)).mono ?_
    rintro e W1 ⟨rfl, L1, h1, h2⟩
    obtain ⟨G, φ, hi⟩ := hG.inv
    obtain ⟨hi', ht⟩ := hi.grow n
    refine ⟨L1, _, none, .inl ⟨rfl, rfl⟩, h1, h2, ⟨Int.le_refl _, by show s.copied ≤ _; omega⟩, rfl, hG.keeps hi' rfl rfl rfl rfl ?_ ?_ rfl rfl rfl, .of (same_slots s _) rfl (fun _ => rfl) ht⟩
    · simp [AHeap.grow]; omega
    · exact live_le hi.rep.wf fun m hm => ⟨reach_mono (A := A) (A' := A.grow n) (fun j hj => by
        rcases List.mem_append.1 hj with h | h
        · exact h
        · have := (List.mem_replicate.1 h).2; omega) rfl hm, rfl⟩
  · rintro e w' ⟨x, rfl, L1, s1, h1, h2, hx, h3, h4⟩
    exact ⟨x, rfl, hx, L1, _, h1, h3.worst _, h2, h4.ran hG.y0, h4.big, h4.words, h4.copied⟩
  · rintro e w' ⟨x, rfl, rfl, h⟩
    exact ⟨rfl, h⟩
end

/-- A heap that opened hands back. -/
structure Op (room young : Int) (B hb : Nat) (L : Lay) (s : HS) (A : AHeap) (k : Nat) (w w' : World) : Prop where
  rep : HRep w' hb L s
  good : Good s A k
  room : s.room = room
  young : s.young = young
  foot : ∀ j, L.foot hb j → B ≤ j
  fr : Fr (fun _ => False) w w'

theorem live_grow {A : AHeap} (hA : A.Wf) (n : Nat) : (A.grow n).live ≤ A.live :=
  live_le hA fun m hm => ⟨reach_mono (A := A) (A' := A.grow n) (fun j hj => by
    rcases List.mem_append.1 hj with h | h
    · exact h
    · have := (List.mem_replicate.1 h).2; omega) rfl hm, rfl⟩

/-- What opened hands back. -/
def Opened (room young : Int) (w : World) (e : Ending) (w' : World) : Prop :=
  (e = .returned (.pointer none) ∧ Fr (fun _ => False) w w') ∨
  ∃ hb L s A, e = .returned (.pointer (some ⟨hb, 0, none⟩)) ∧ room ≤ 8192 ∧ Op room young w.heap.size hb L s A 0 w w' ∧ s.big = 0 ∧ s.worst ≤ 0 ∧ A.live = 0 ∧ debts s ≤ 2 * s.words ∧ s.copied = 0 ∧ s.words = 0

set_option maxRecDepth 100000 in
set_option maxHeartbeats 2000000 in
theorem opened_any {room young slots : Int} {w : World} : Calls Try.prog 8 #[.int .i64 room, .int .i64 young, .int .i64 slots] w (Opened room young w) := by
  by_cases h8 : 8192 < room
  · go_enter Try.func8, Try.ntmps8
    go_wp2
    go_ret
    exact .inl ⟨rfl, Fr.refl _ _⟩
  by_cases hs0 : slots < 0
  · have g1 : room ≤ 8192 := by omega
    clear h8
    go_enter Try.func8, Try.ntmps8
    go_wp2
    go_ret
    exact .inl ⟨rfl, Fr.refl _ _⟩
  by_cases hs2 : 200 < slots
  · have g1 : room ≤ 8192 := by omega
    have g2 : 0 ≤ slots := by omega
    clear h8 hs0
    go_enter Try.func8, Try.ntmps8
    go_wp2
    go_ret
    exact .inl ⟨rfl, Fr.refl _ _⟩
  have g1 : room ≤ 8192 := by omega
  have g2 : 0 ≤ slots := by omega
  have g3 : slots ≤ 200 := by omega
  by_cases hbad : room < 256 ∨ young < 16 ∨ room / 16 < young
  · have HN := Lib.hid (fun W => New_bad (w := W) g1 hbad)
    clear hbad h8 hs0 hs2
    go_enter Try.func8, Try.ntmps8
    go_wp2_with (go_at_call 26; refine (HN.out _).mono ?_; rintro e w1 ⟨rfl, hf⟩; have HF := Lib.hid hf; clear hf)
    go_ret
    exact .inl ⟨rfl, HF.out⟩
  · obtain ⟨n, rfl⟩ : ∃ n : Nat, slots = n := ⟨slots.toNat, by omega⟩
    have HN := Lib.hid (fun W => New_yes (w := W) (room := room) (young := young) (by omega) (by omega) (by omega) (by omega))
    have HB := Lib.hid (show 256 ≤ room ∧ room ≤ 8192 ∧ 16 ≤ young ∧ young ≤ room / 16 by omega)
    clear hbad h8 hs0 hs2
    go_enter Try.func8, Try.ntmps8
    go_wp2_with (first | (go_at_call 26; refine (HN.out _).mono ?_; rintro e w1 ⟨hb, rfl, h1, h2, h3⟩; have HF := Lib.hid (And.intro h1 (And.intro h2 h3)); clear h1 h2 h3) | (go_at_call 27; refine (Grow_acc (new_rep HF.out.2.1) (new_good HB.out.1 (by have := HB.out.2.1; omega) HB.out.2.2.1 HB.out.2.2.2) (by show n + 0 ≤ 4096; omega)).mono ?_; rintro e w2 ⟨rfl, hG⟩; have HG := Lib.hid hG; clear hG))
    go_ret
    obtain ⟨h1, h2, h3⟩ := HF.out
    obtain ⟨L', s', q1, q2, q3, q4, q5, q6, q7⟩ := HG.out
    have hfoot : ∀ j, L'.foot hb j → w.heap.size ≤ j := fun j hj => by
      rcases q3.foot j hj with h | h
      · rcases h with rfl | ⟨i, _, e⟩
        · exact h1
        · cases e
      · have := h3.size; omega
    have hl0 : (⟨[], []⟩ : AHeap).live = 0 := by unfold AHeap.live; rw [search_nil]; rfl
    have hlive : ((⟨[], []⟩ : AHeap).grow n).live ≤ (⟨[], []⟩ : AHeap).live := live_grow ⟨fun n hn => (by cases hn), fun o ho => (by cases ho)⟩ n
    have hw0 : (newHS room young).worst = 0 := rfl
    have hc0 : (newHS room young).copied = 0 := rfl
    have hwd : (newHS room young).words = 0 := rfl
    have hwo := q4.worst trivial
    have hac := q4.acc trivial (by have := HB.out; rw [hl0]; show (4 : Int) * ((0 : Nat) : Int) ≤ room; omega) (by show (0 : Int) + ((0 : Nat) : Int) + 2 * ((0 : Nat) : Int) ≤ 2 * 0; omega)
    refine .inr ⟨hb, L', s', _, rfl, g1, ⟨q1, q2, q4.room, q4.young, hfoot, ?_⟩, q5, by omega, by omega, hac, by omega, by omega⟩
    refine h3.trans q3.fr fun j hj => ?_
    rcases hj with rfl | ⟨i, _, e⟩
    · exact .inr h1
    · cases e
end Go.Proofs.Ythjokcjdphempaa

namespace Go.Proofs.Ythjokcjdphempaa
open Go.RowKit Hp Go.Shelf

section
variable {room young : Int} {hb : Nat} {L : Lay} {s : HS} {A : AHeap} {k : Nat} {w wr w1 : World}

theorem Op.of_fr (h : Op room young w.heap.size hb L s A k w wr) (hf : Fr (fun _ => False) wr w1) : Op room young w.heap.size hb L s A k w w1 :=
  ⟨h.rep.of_fr hf fun _ _ h => h, h.good, h.room, h.young, h.foot, h.fr.trans hf fun _ h => h.elim⟩

theorem Op.left {L' : Lay} {s' : HS} {A' : AHeap} {k' : Nat} (h : Op room young w.heap.size hb L s A k w wr) (h1 : HRep w1 hb L' s') (h2 : Good s' A' k') (h3 : Left hb L L' wr w1) (h4 : s'.room = s.room) (h5 : s'.young = s.young) : Op room young w.heap.size hb L' s' A' k' w w1 := by
  have hs := h.fr.size
  refine ⟨h1, h2, h4.trans h.room, h5.trans h.young, fun j hj => ?_, h.fr.trans h3.fr fun j hj => .inr (h.foot j hj)⟩
  rcases h3.foot j hj with h' | h'
  · exact h.foot j h'
  · omega

theorem Op.did {q : Prop} {sz : Nat} {x : Int} (h : Op room young w.heap.size hb L s A k w wr) (hd : Did q sz hb L s wr A k x w1) : ∃ L' s' A', Op room young w.heap.size hb L' s' A' (k + 1) w w1 ∧ Ran q sz x A s s' := by
  obtain ⟨L', s', A', h1, h2, h3, h4⟩ := hd
  exact ⟨L', s', A', h.left h1 h2 h3 h4.room h4.young, h4⟩

theorem Op.live (h : Op room young w.heap.size hb L s A k w wr) (hd : LiveM hb L s wr A k w1) : ∃ L' s', Op room young w.heap.size hb L' s' A k w w1 ∧ Ran True 0 0 A s s' := by
  obtain ⟨L', s', h1, h2, h3, h4⟩ := hd
  exact ⟨L', s', h.left h1 h2 h3 h4.room h4.young, h4⟩

theorem Op.acts {B n : Nat} {X : Option Addr} (h : Op room young w.heap.size hb L s A k w wr) (hA : ActsAt B w X n) (hB : B ≤ w.heap.size) : ActsAt B wr X n := hA.keep fun b hb => h.fr.block b (by omega) id

/-- The words in use. -/
theorem Op.used (h : Op room young w.heap.size hb L s A k w wr) : (∀ j, j < 3 → (s.ar j).length ≤ 50000000000) ∧ ((s.ar 2).length : Int) ≤ young ∧ A.live ≤ (s.ar 0).length + (s.ar 1).length + (s.ar 2).length := by
  obtain ⟨G, φ, hi⟩ := h.good.inv
  exact ⟨h.good.wide.2, by rw [← h.young]; exact hi.ylen, live_le_used hi⟩
end

theorem live_none {A : AHeap} (h : A.slots = []) : A.live = 0 := by
  have h1 : ∀ i, outAt A i = [] := by
    intro i
    induction i with
    | zero => show adds [] A.slots = []; rw [h]; rfl
    | succ i ih => rw [outAt_none (by rw [ih]; rfl), ih]
  unfold AHeap.live AHeap.search
  rw [h1]
  rfl

section
variable {room young : Int} {hb : Nat} {L : Lay} {s : HS} {A : AHeap} {k : Nat} {w wr w1 : World}

/-- Shrink, by as many slots as there are at most. -/
theorem Shrink_acc (hr : HRep w hb L s) (hG : Good s A k) {n : Nat} (hn : n ≤ s.slots.length) :
    Calls Try.prog 24 #[.pointer (some ⟨hb, 0, none⟩), .int .i64 n] w fun e w' => e = .returned (.int .i64 0) ∧ ∃ L' s', HRep w' hb L' s' ∧ Good s' (A.shrink n) k ∧ Left hb L L' w w' ∧ s'.room = s.room ∧ s'.young = s.young := by
  obtain ⟨b1, b2, b3, b4, b5, b6⟩ := hG.bounds
  have hnsl := hG.nsl
  have hsl := hG.sl
  refine (Shrink_w (R := fun x w' => x = 0 ∧ ∃ L' s', HRep w' hb L' s' ∧ Good s' (A.shrink n) k ∧ Left hb L L' w w' ∧ s'.room = s.room ∧ s'.young = s.young) ((meth0 (os := [.cells #[.pointer (some ⟨hb, 0, none⟩)] 23, .cells #[.int .i64 n] 3]) hr hG (enters_of Try.func65 (by kernel_rfl) rfl)
    (R := fun x s1 => x = 0 ∧ Good s1 (A.shrink n) k ∧ s1.room = s.room ∧ s1.young = s.young) ?_).mono ?_)).mono ?_
  · intro Wc hf hrc
    have x0 := box_at hf 0 rfl
    have x1 := box_at hf 1 rfl
    refine (shrink_yes hrc (cell_of_box x0).1 (cell_of_box x1).1 (foot_lt hr (by omega)) (foot_lt hr (by omega)) hsl hn).mono ?_
    rintro e W1 ⟨rfl, L1, h1, h2⟩
    obtain ⟨G, φ, hi⟩ := hG.inv
    obtain ⟨hi', ht⟩ := hi.shrink n
    exact ⟨L1, _, none, .inl ⟨rfl, rfl⟩, h1, h2, ⟨Int.le_refl _, by show s.copied ≤ _; omega⟩, rfl, hG.keeps hi' rfl rfl rfl rfl (by simp [AHeap.shrink]; omega) (live_le hi.rep.wf fun j hj => ⟨reach_mono (A := A) (A' := A.shrink n) (fun j hj => List.mem_of_mem_take hj) rfl hj, rfl⟩) rfl rfl rfl, rfl, rfl⟩
  · rintro e w' ⟨x, rfl, L1, s1, h1, h2, hx, h3, h4, h5⟩
    exact ⟨x, rfl, hx, L1, _, h1, h3.worst _, h2, h4, h5⟩
  · rintro e w' ⟨x, rfl, rfl, h⟩
    exact ⟨rfl, h⟩

/-- The contracts of a heap that was opened, behind worlds that leave it alone. -/
theorem Op.live_c (hO : Op room young w.heap.size hb L s A k w w1) : ∀ W, Fr (fun _ => False) w1 W → Calls Try.prog 12 #[.pointer (some ⟨hb, 0, none⟩)] W fun e w' => e = .returned (.int .i64 A.live) ∧ ∃ L' s', Op room young w.heap.size hb L' s' A k w w' := fun W hf => by
  have h := hO.of_fr hf
  refine (Live_ran h.rep h.good).mono ?_
  rintro e w' ⟨rfl, hl⟩
  obtain ⟨L', s', h1, _⟩ := h.live hl
  exact ⟨rfl, L', s', h1⟩

/-- A heap with nothing in the young area, and as many words as live in the old ones. -/
structure Whl (room young : Int) (hb : Nat) (L : Lay) (s : HS) (A : AHeap) (k : Nat) (w w' : World) : Prop where
  op : Op room young w.heap.size hb L s A k w w'
  y : s.ar 2 = []
  old : (s.ar 0).length + (s.ar 1).length = A.live

theorem Op.whole_c (h : Op room young w.heap.size hb L s A k w wr) (hk : k + 1 ≤ 100000) : Calls Try.prog 23 #[.pointer (some ⟨hb, 0, none⟩)] wr fun e w' => e = .returned (.int .i64 0) ∧ ∃ L' s', Whl room young hb L' s' A (k + 1) w w' := by
  refine (Whole_any h.rep h.good hk).mono ?_
  rintro e w' ⟨x, rfl, rfl, L', s', h1, h2, h3, h4, h5, h6⟩
  exact ⟨rfl, L', s', h.left h1 h2 h3 h4.room h4.young, h5, h6⟩

theorem Op.minor_c (h : Op room young w.heap.size hb L s A k w wr) (hk : k + 1 ≤ 100000) : Calls Try.prog 22 #[.pointer (some ⟨hb, 0, none⟩)] wr fun e w' => e = .returned (.int .i64 0) ∧ ∃ L' s', Op room young w.heap.size hb L' s' A (k + 1) w w' ∧ s'.ar 2 = [] := by
  refine (Minor_any h.rep h.good hk).mono ?_
  rintro e w' ⟨x, rfl, rfl, L', s', h1, h2, h3, h4, h5⟩
  exact ⟨rfl, L', s', h.left h1 h2 h3 h4.room h4.young, h5⟩

theorem Op.used_c (h : Op room young w.heap.size hb L s A k w wr) (hy : s.ar 2 = []) : Calls Try.prog 21 #[.pointer (some ⟨hb, 0, none⟩)] wr fun e w' => (∃ o : Nat, e = .returned (.tuple #[.int .i64 0, .int .i64 o]) ∧ A.live ≤ o ∧ o ≤ 200000000000 ∧ o = (s.ar 0).length + (s.ar 1).length) ∧ Op room young w.heap.size hb L s A k w w' ∧ Fr (fun _ => False) wr w' := by
  obtain ⟨u1, u2, u3⟩ := h.used
  have l0 := u1 0 (by omega)
  have l1 := u1 1 (by omega)
  refine (Used_any h.rep (fun j hj => by have := u1 j hj; omega)).mono ?_
  rintro e w' ⟨rfl, hf⟩
  rw [hy] at u3
  simp at u3
  exact ⟨⟨(s.ar 0).length + (s.ar 1).length, by rw [hy]; simp, u3, by omega, rfl⟩, h.of_fr hf, hf⟩

theorem Op.shrink_c (h : Op room young w.heap.size hb L s A k w wr) : Calls Try.prog 24 #[.pointer (some ⟨hb, 0, none⟩), .int .i64 s.slots.length] wr fun e w' => e = .returned (.int .i64 0) ∧ ∃ L' s' A', A'.live = 0 ∧ Op room young w.heap.size hb L' s' A' k w w' := by
  refine (Shrink_acc h.rep h.good (Nat.le_refl _)).mono ?_
  rintro e w' ⟨rfl, L', s', h1, h2, h3, h4, h5⟩
  refine ⟨rfl, L', s', _, live_none ?_, h.left h1 h2 h3 h4 h5⟩
  have := h.good.bounds.2.2.2.2.2
  simp [AHeap.shrink, this]
end

def Yes (w : World) (e : Ending) (w' : World) : Prop := e = .returned (.bool true) ∧ Fr (fun _ => False) w w'

end Go.Proofs.Ythjokcjdphempaa

namespace Go.Proofs.Ythjokcjdphempaa
open Go.ChangeShapes Go.WideShapes Go.ChangeAt Go.RowKit Go.Joins Go.Deep

theorem own : ownKnob Try.prog.godebug = none := by kernel_rfl
theorem laidOut : laidOutB Try.prog = true := by kernel_rfl

section
variable {H : Type} {enc : TypeId × Value → H} {P : Program} {w : World} {base : Nat} {spare : Nat → Bool} {held : Bool}
theorem open_slice_fields {t e : TypeId} {fs : Array Field} {fuel : Nat} {cs : List Value} {x : DataW H × List MemPlace} (ht : P.underlying t = some (.slice e)) (he : P.underlying e = some (.struct fs))
    (hone : oneCellFields P fs = true) (hC : P.cellsOf e = fs.size) (h : DataW.trod enc P w base spare held fuel t cs = some x) :
    (cs = [.slice none 0 0]) ∨
    ∃ (a : Addr) (len cap m : Nat), cs = [.slice (some a) len cap] ∧ len ≤ cap ∧ cap ≤ maxLen ∧ m = (if spare a.block then cap else len) ∧
      ∀ i, i < m → ∃ n : Nat, ∀ (j : Nat) (f : Field), fs[j]? = some f → ∃ (v : Value) (y : DataW H × List MemPlace), w.cell? (a.add (i * fs.size + j)) = some v ∧ DataW.trod enc P w base spare held n f.type [v] = some y := by
  rcases open_slice ht h with h0 | ⟨a, len, cap, m, n, D, Pl, hcs, hb, hl, hm, hmm, hx, hi⟩
  · exact .inl h0.1
  · refine .inr ⟨a, len, cap, m, hcs, hl, hm, hmm, fun i him => ?_⟩
    obtain ⟨cs', hc, ht'⟩ := hi i him
    rw [hC] at hc
    obtain ⟨ys, n', hn', hy, hlen, hyl, hf⟩ := DataW.trod_struct he ht'
    obtain ⟨_, hcl, hat⟩ := World.cells?_some hc
    refine ⟨n', fun j f hj => ?_⟩
    obtain ⟨ho, hk⟩ := hone_of hone j f hj
    have hjl : j < fs.size := (Array.getElem?_eq_some_iff.1 hj).1
    have hcell := hat j hjl
    have hv : cs'[j]? = some (cs'[j]'(by omega)) := List.getElem?_eq_getElem (by omega)
    have h1 := hf j f hj
    rw [ho, hk] at h1
    have hone' : (cs'.drop j).take 1 = [cs'[j]'(by omega)] := by
      rw [List.drop_eq_getElem_cons (by omega)]
      rfl
    rw [hone'] at h1
    have hys : ys[j]? = some (ys[j]'(by omega)) := List.getElem?_eq_getElem (by omega)
    refine ⟨_, _, ?_, h1.trans hys⟩
    rw [← Go.Deep.add_add, hcell, hv]
end

/-- The reading of a list of acts. -/
theorem open_acts {H : Type} {enc : TypeId × Value → H} {W : World} {spare : Nat → Bool} {held : Bool} {r : Reach} {b0 : Nat} {v : Value} {d : DataW H} {p : List MemPlace} (hv : Value.okWide Try.prog W r b0 22 v) (h : DataW.Trod enc Try.prog W 0 spare held 22 v d p) :
    ∃ X n cap, v = .slice X n cap ∧ ActsAt W.heap.size W X n := by
  obtain ⟨X, n, cap, rfl⟩ := okWide_slice Try.underlying22 hv
  refine ⟨X, n, cap, rfl, ?_⟩
  obtain ⟨fuel, hf⟩ := h
  intro h0
  rcases open_slice_fields Try.underlying22 Try.underlying33 (by kernel_rfl) (by kernel_rfl) hf with hc | ⟨a, len, cap', m, hc, hl, hm, hmm, hi⟩
  · simp [Value.cells] at hc
    omega
  · simp [Value.cells] at hc
    obtain ⟨rfl, rfl, rfl⟩ := hc
    have hnm : n ≤ m := by rw [hmm]; split <;> omega
    have key : ∀ i, i < n → ∃ kd a1 a2 a3 a4 : Int, 0 ≤ kd ∧ kd ≤ 255 ∧ W.cell? (a.add (i * 5)) = some (.int .u8 kd) ∧ W.cell? (a.add (i * 5 + 1)) = some (.int .i64 a1) ∧ W.cell? (a.add (i * 5 + 2)) = some (.int .i64 a2) ∧ W.cell? (a.add (i * 5 + 3)) = some (.int .i64 a3) ∧ W.cell? (a.add (i * 5 + 4)) = some (.int .i64 a4) ∧
        (-9223372036854775808 ≤ a1 ∧ a1 ≤ 9223372036854775807) ∧ (-9223372036854775808 ≤ a2 ∧ a2 ≤ 9223372036854775807) ∧ (-9223372036854775808 ≤ a3 ∧ a3 ≤ 9223372036854775807) ∧ (-9223372036854775808 ≤ a4 ∧ a4 ≤ 9223372036854775807) := by
      intro i hin
      obtain ⟨f', hj⟩ := hi i (by omega)
      obtain ⟨v0, y0, c0, t0⟩ := hj 0 _ rfl
      obtain ⟨v1, y1, c1, t1⟩ := hj 1 _ rfl
      obtain ⟨v2, y2, c2, t2⟩ := hj 2 _ rfl
      obtain ⟨v3, y3, c3, t3⟩ := hj 3 _ rfl
      obtain ⟨v4, y4, c4, t4⟩ := hj 4 _ rfl
      obtain ⟨kd, e0, _, wk⟩ := DataW.trod_int Try.underlying5 t0
      obtain ⟨a1, e1, _, w1⟩ := DataW.trod_int Try.underlying3 t1
      obtain ⟨a2, e2, _, w2⟩ := DataW.trod_int Try.underlying3 t2
      obtain ⟨a3, e3, _, w3⟩ := DataW.trod_int Try.underlying3 t3
      obtain ⟨a4, e4, _, w4⟩ := DataW.trod_int Try.underlying3 t4
      simp at e0 e1 e2 e3 e4
      subst e0 e1 e2 e3 e4
      exact ⟨kd, a1, a2, a3, a4, (bounds_u8 wk).1, by have := (bounds_u8 wk).2; omega, c0, c1, c2, c3, c4, bounds_i64 w1, bounds_i64 w2, bounds_i64 w3, bounds_i64 w4⟩
    have hsp : a.spot = none := by
      obtain ⟨kd, a1, a2, a3, a4, _, _, c0, _⟩ := key 0 h0
      rw [show (0 : Nat) * 5 = 0 from rfl, show a.add 0 = a from rfl] at c0
      exact World.cell?_spot c0
    obtain ⟨b, off, sp⟩ := a
    simp at hsp
    subst hsp
    have hadd : ∀ j, (⟨b, off, none⟩ : Addr).add j = ⟨b, off + j, none⟩ := fun j => by
      unfold Addr.add
      split
      · rename_i e; rw [e]; rfl
      · rfl
    refine ⟨b, off, rfl, ?_, fun i hin => ?_⟩
    · obtain ⟨kd, a1, a2, a3, a4, _, _, c0, _⟩ := key 0 h0
      rw [hadd] at c0
      exact World.block_lt_of_cell? _ _ c0
    · obtain ⟨kd, a1, a2, a3, a4, q0, q1, c0, c1, c2, c3, c4, i1, i2, i3, i4⟩ := key i hin
      rw [hadd] at c0 c1 c2 c3 c4
      exact ⟨kd, a1, a2, a3, a4, q0, q1, c0, by rw [Nat.add_assoc]; exact c1, by rw [Nat.add_assoc]; exact c2, by rw [Nat.add_assoc]; exact c3, by rw [Nat.add_assoc]; exact c4, i1, i2, i3, i4⟩
end Go.Proofs.Ythjokcjdphempaa
