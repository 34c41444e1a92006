/- sanity. -/
import Derived.Test.YthjokcjdphempaaNew
namespace Go.Proofs.Ythjokcjdphempaa
open Go.RowKit Hp Go.Shelf

/-- The heap of sanity in a world that grew out of w0. -/
def San (w0 : World) (hb : Nat) (A : AHeap) (k : Nat) (W : World) : Prop :=
  ∃ L s, HRep W hb L s ∧ Good s A k ∧ s.room = 256 ∧ s.young = 16 ∧ (∀ j, L.foot hb j → w0.heap.size ≤ j) ∧ Fr (fun _ => False) w0 W

section
variable {w0 W W' : World} {hb : Nat} {A A' : AHeap} {k k' : Nat}

theorem San.of_fr (h : San w0 hb A k W) (hf : Fr (fun _ => False) W W') : San w0 hb A k W' := by
  obtain ⟨L, s, h1, h2, h3, h4, h5, h6⟩ := h
  exact ⟨L, s, h1.of_fr hf (fun _ _ h => h), h2, h3, h4, h5, h6.trans hf fun _ h => h.elim⟩

theorem San.after {L : Lay} {s : HS} (hA : After hb L s W A' k' W') (h3 : s.room = 256) (h4 : s.young = 16) (h5 : ∀ j, L.foot hb j → w0.heap.size ≤ j) (h6 : Fr (fun _ => False) w0 W) : San w0 hb A' k' W' := by
  obtain ⟨L', s', q1, q2, q3, q4, q5⟩ := hA
  have hs := h6.size
  refine ⟨L', s', q1, q2, q4.trans h3, q5.trans h4, fun j hj => ?_, ?_⟩
  · rcases q3.foot j hj with h | h
    · exact h5 j h
    · omega
  · exact h6.trans q3.fr fun j hj => .inr (h5 j hj)

theorem san_new {w : World} : Calls Try.prog 26 #[.agg #[.int .i64 256, .int .i64 16]] w fun e w' => ∃ hb, e = .returned (.tuple #[.pointer (some ⟨hb, 0, none⟩), .int .i64 0]) ∧ San w hb ⟨[], []⟩ 0 w' := by
  refine (New_yes (room := 256) (young := 16) (w := w) (by decide) (by decide) (by decide) (by decide)).mono ?_
  rintro e w' ⟨hb, rfl, h1, h2, h3⟩
  refine ⟨hb, rfl, nilLay, _, new_rep h2, new_good (by decide) (by decide) (by decide) (by decide), rfl, rfl, fun j hj => ?_, h3⟩
  rcases hj with rfl | ⟨i, _, e⟩
  · exact h1
  · cases e

theorem san_grow (h : San w0 hb ⟨[], []⟩ 0 W) : Calls Try.prog 27 #[.pointer (some ⟨hb, 0, none⟩), .int .i64 3] W fun e W' => e = .returned (.int .i64 0) ∧ San w0 hb ⟨[0, 0, 0], []⟩ 0 W' := by
  obtain ⟨L, s, h1, h2, h3, h4, h5, h6⟩ := h
  refine (Grow_yes (n := 3) h1 h2 (by decide)).mono ?_
  rintro e W' ⟨rfl, hA⟩
  exact ⟨rfl, San.after hA h3 h4 h5 h6⟩

theorem san_make (h : San w0 hb A k W) (hk : k + 1 ≤ 100000) {to tag refs raws : Nat} (hto : to < A.slots.length) (ht : tag < 65536) (hrf : refs ≤ 4000) (hrw : raws ≤ 4000) (hfit : A.live + (1 + refs + raws) ≤ 256) :
    Calls Try.prog 14 #[.pointer (some ⟨hb, 0, none⟩), .int .i64 to, .int .i64 tag, .int .i64 refs, .int .i64 raws] W fun e W' => e = .returned (.int .i64 0) ∧ San w0 hb (A.make to tag refs raws) (k + 1) W' := by
  obtain ⟨L, s, h1, h2, h3, h4, h5, h6⟩ := h
  refine (Make_any h1 h2 hk hto ht hrf hrw).mono ?_
  rintro e W' (⟨_, rfl, hA⟩ | ⟨hno, _, _⟩)
  · exact ⟨rfl, San.after hA h3 h4 h5 h6⟩
  · rw [h3] at hno; omega

theorem san_full (h : San w0 hb A k W) (hk : k + 1 ≤ 100000) {to tag refs raws : Nat} (hto : to < A.slots.length) (ht : tag < 65536) (hrf : refs ≤ 4000) (hrw : raws ≤ 4000) (hfull : 256 < A.live + (1 + refs + raws)) :
    Calls Try.prog 14 #[.pointer (some ⟨hb, 0, none⟩), .int .i64 to, .int .i64 tag, .int .i64 refs, .int .i64 raws] W fun e W' => e = .returned (.int .i64 11) ∧ San w0 hb A k W' := by
  obtain ⟨L, s, h1, h2, h3, h4, h5, h6⟩ := h
  refine (Make_any h1 h2 hk hto ht hrf hrw).mono ?_
  rintro e W' (⟨hno, _, _⟩ | ⟨_, rfl, hA⟩)
  · rw [h3] at hno; omega
  · exact ⟨rfl, San.after hA h3 h4 h5 h6⟩

theorem san_set (h : San w0 hb A k W) {i m r j n : Nat} (h0 : A.slots[i]? = some (m + 1)) (hr0 : r < (A.obj m).refs.length) (hj : A.slots[j]? = some n) :
    Calls Try.prog 28 #[.pointer (some ⟨hb, 0, none⟩), .int .i64 i, .int .i64 r, .int .i64 j] W fun e W' => e = .returned (.int .i64 0) ∧ San w0 hb (A.setRef m r n) k W' := by
  obtain ⟨L, s, h1, h2, h3, h4, h5, h6⟩ := h
  refine (Set_yes h1 h2 h0 hr0 hj).mono ?_
  rintro e W' ⟨rfl, hA⟩
  exact ⟨rfl, San.after hA h3 h4 h5 h6⟩

theorem san_store (h : San w0 hb A k W) {i m r : Nat} {v : Int} (h0 : A.slots[i]? = some (m + 1)) (hr0 : r < (A.obj m).raws.length) :
    Calls Try.prog 29 #[.pointer (some ⟨hb, 0, none⟩), .int .i64 i, .int .i64 r, .int .i64 v] W fun e W' => e = .returned (.int .i64 0) ∧ San w0 hb (A.setRaw m r v) k W' := by
  obtain ⟨L, s, h1, h2, h3, h4, h5, h6⟩ := h
  refine (Store_yes h1 h2 h0 hr0).mono ?_
  rintro e W' ⟨rfl, hA⟩
  exact ⟨rfl, San.after hA h3 h4 h5 h6⟩

theorem san_get (h : San w0 hb A k W) {j i m r n : Nat} (hj : j < A.slots.length) (h0 : A.slots[i]? = some (m + 1)) (hr0 : (A.obj m).refs[r]? = some n) :
    Calls Try.prog 30 #[.pointer (some ⟨hb, 0, none⟩), .int .i64 j, .int .i64 i, .int .i64 r] W fun e W' => e = .returned (.int .i64 0) ∧ San w0 hb (A.setSlot j n) k W' := by
  obtain ⟨L, s, h1, h2, h3, h4, h5, h6⟩ := h
  refine (Get_yes h1 h2 hj h0 hr0).mono ?_
  rintro e W' ⟨rfl, hA⟩
  exact ⟨rfl, San.after hA h3 h4 h5 h6⟩

theorem san_load (h : San w0 hb A k W) {i m r : Nat} {v : Int} (h0 : A.slots[i]? = some (m + 1)) (hr0 : (A.obj m).raws[r]? = some v) :
    Calls Try.prog 32 #[.pointer (some ⟨hb, 0, none⟩), .int .i64 i, .int .i64 r] W fun e W' => e = .returned (.tuple #[.int .i64 v, .int .i64 0]) ∧ San w0 hb A k W' := by
  obtain ⟨L, s, h1, h2, h3, h4, h5, h6⟩ := h
  refine (Load_yes h1 h2 h0 hr0).mono ?_
  rintro e W' ⟨rfl, hA⟩
  exact ⟨rfl, San.after hA h3 h4 h5 h6⟩

theorem san_alike (h : San w0 hb A k W) {i j n : Nat} (h0 : A.slots[i]? = some n) (h1' : A.slots[j]? = some n) :
    Calls Try.prog 31 #[.pointer (some ⟨hb, 0, none⟩), .int .i64 i, .int .i64 j] W fun e W' => e = .returned (.tuple #[.bool true, .int .i64 0]) ∧ San w0 hb A k W' := by
  obtain ⟨L, s, h1, h2, h3, h4, h5, h6⟩ := h
  refine (Alike_yes h1 h2 h0 h1').mono ?_
  rintro e W' ⟨rfl, hA⟩
  exact ⟨by simp, San.after hA h3 h4 h5 h6⟩

theorem san_live (h : San w0 hb A k W) : Calls Try.prog 12 #[.pointer (some ⟨hb, 0, none⟩)] W fun e W' => e = .returned (.int .i64 A.live) ∧ San w0 hb A k W' := by
  obtain ⟨L, s, h1, h2, h3, h4, h5, h6⟩ := h
  refine (Live_yes h1 h2).mono ?_
  rintro e W' ⟨rfl, hA⟩
  exact ⟨rfl, San.after hA h3 h4 h5 h6⟩

theorem san_dump (h : San w0 hb A k W) : Calls Try.prog 13 #[.pointer (some ⟨hb, 0, none⟩)] W fun e w' => ∃ a1 k1 a2 k2, e = .returned (.agg #[.slice a1 A.slots.length k1, .slice a2 (dumpL A).length k2]) ∧ IsSl w' (.slice a1 A.slots.length k1) (A.slots.map (numOf A)) ∧
    ObjL w' (.slice a2 (dumpL A).length k2) (dumpL A) ∧ San w0 hb A k w' := by
  obtain ⟨L, s, h1, h2, h3, h4, h5, h6⟩ := h
  refine (Dump_yes h1 h2).mono ?_
  rintro e W' ⟨a1, k1, a2, k2, rfl, q1, q2, hA⟩
  exact ⟨a1, k1, a2, k2, rfl, q1, q2, San.after hA h3 h4 h5 h6⟩
end

/-- The abstract heaps of sanity. -/
def sA1 : AHeap := ⟨[0, 0, 0], []⟩
def sA2 : AHeap := sA1.make 0 7 1 2
def sA3 : AHeap := sA2.setRef 0 0 1
def sA4 : AHeap := sA3.setRaw 0 1 9
def sA5 : AHeap := sA4.setSlot 1 1
def sA6 : AHeap := sA5.make 2 1 0 240

theorem sA1_live : sA1.live = 0 := by kernel_rfl
theorem sA4_live : sA4.live = 4 := by kernel_rfl
theorem sA5_live : sA5.live = 4 := by kernel_rfl
theorem sA6_live : sA6.live = 245 := by kernel_rfl
theorem sA4_slots : sA4.slots.map (numOf sA4) = [1, 0, 0] := by kernel_rfl
theorem sA4_len : sA4.slots.length = 3 := by kernel_rfl
theorem sA4_dump : dumpL sA4 = [(7, [1], [0, 9])] := by kernel_rfl
/-- The comparison of sanity's dump. -/
theorem lit_same {w7 : World} {a1 a2 : Option Addr} {k1 k2 : Nat} (s1 : IsSl w7 (.slice a1 3 k1) [1, 0, 0]) (o1 : ObjL w7 (.slice a2 1 k2) [(7, [1], [0, 9])]) :
    Calls Try.prog 16 #[.agg #[.slice a1 3 k1, .slice a2 1 k2], .agg #[.slice (some ⟨w7.heap.size + 1, 0, none⟩) 3 3, .slice (some ⟨w7.heap.size + 1 + 1 + 1 + 1, 0, none⟩) 1 1]]
      (((((w7.alloc (.cells #[.slice a1 3 k1, .slice a2 1 k2] 38)).alloc (.cells #[.int .i64 1, .int .i64 0, .int .i64 0] 3)).alloc (.cells #[.int .i64 1] 3)).alloc (.cells #[.int .i64 0, .int .i64 9] 3)).alloc
        (.cells #[.int .i64 7, .slice (some ⟨w7.heap.size + 1 + 1, 0, none⟩) 1 1, .slice (some ⟨w7.heap.size + 1 + 1 + 1, 0, none⟩) 2 2] 67)) fun e w' => e = .returned (.bool true) ∧ Fr (fun _ => False) w7 w' := by
  obtain ⟨f, hsz, hat⟩ := allocs_spec [.cells #[.slice a1 3 k1, .slice a2 1 k2] 38, .cells #[.int .i64 1, .int .i64 0, .int .i64 0] 3, .cells #[.int .i64 1] 3, .cells #[.int .i64 0, .int .i64 9] 3,
    .cells #[.int .i64 7, .slice (some ⟨w7.heap.size + 1 + 1, 0, none⟩) 1 1, .slice (some ⟨w7.heap.size + 1 + 1 + 1, 0, none⟩) 2 2] 67] w7
  obtain ⟨W, hW⟩ : ∃ W, W = allocs w7 [.cells #[.slice a1 3 k1, .slice a2 1 k2] 38, .cells #[.int .i64 1, .int .i64 0, .int .i64 0] 3, .cells #[.int .i64 1] 3, .cells #[.int .i64 0, .int .i64 9] 3,
    .cells #[.int .i64 7, .slice (some ⟨w7.heap.size + 1 + 1, 0, none⟩) 1 1, .slice (some ⟨w7.heap.size + 1 + 1 + 1, 0, none⟩) 2 2] 67] := ⟨_, rfl⟩
  rw [← hW] at f hsz hat
  show Calls Try.prog 16 _ (allocs w7 [.cells #[.slice a1 3 k1, .slice a2 1 k2] 38, .cells #[.int .i64 1, .int .i64 0, .int .i64 0] 3, .cells #[.int .i64 1] 3, .cells #[.int .i64 0, .int .i64 9] 3,
    .cells #[.int .i64 7, .slice (some ⟨w7.heap.size + 1 + 1, 0, none⟩) 1 1, .slice (some ⟨w7.heap.size + 1 + 1 + 1, 0, none⟩) 2 2] 67]) _
  rw [← hW]
  have b1 : W.heap[w7.heap.size + 1]? = some (.cells #[.int .i64 1, .int .i64 0, .int .i64 0] 3 (0, 0)) := hat 1 _ rfl
  have b2 : W.heap[w7.heap.size + 1 + 1]? = some (.cells #[.int .i64 1] 3 (0, 0)) := hat 2 _ rfl
  have b3 : W.heap[w7.heap.size + 1 + 1 + 1]? = some (.cells #[.int .i64 0, .int .i64 9] 3 (0, 0)) := hat 3 _ rfl
  have b4 : W.heap[w7.heap.size + 1 + 1 + 1 + 1]? = some (.cells #[.int .i64 7, .slice (some ⟨w7.heap.size + 1 + 1, 0, none⟩) 1 1, .slice (some ⟨w7.heap.size + 1 + 1 + 1, 0, none⟩) 2 2] 67 (0, 0)) := hat 4 _ rfl
  have i1 : IsSl W (.slice (some ⟨w7.heap.size + 1, 0, none⟩) 3 3) [1, 0, 0] := .inr ⟨_, 0, 3, [1, 0, 0], rfl, b1, by simp, by simp, by simp [maxLen], rfl⟩
  have i2 : IsSl W (.slice (some ⟨w7.heap.size + 1 + 1, 0, none⟩) 1 1) [1] := .inr ⟨_, 0, 1, [1], rfl, b2, by simp, by simp, by simp [maxLen], rfl⟩
  have i3 : IsSl W (.slice (some ⟨w7.heap.size + 1 + 1 + 1, 0, none⟩) 2 2) [0, 9] := .inr ⟨_, 0, 2, [0, 9], rfl, b3, by simp, by simp, by simp [maxLen], rfl⟩
  have o2 : ObjL W (.slice (some ⟨w7.heap.size + 1 + 1 + 1 + 1, 0, none⟩) 1 1) [(7, [1], [0, 9])] := by
    refine .inr ⟨_, 1, rfl, by simp, fun i t rs ws h => ?_⟩
    cases i with
    | zero =>
      cases h
      exact ⟨_, 1, _, 2, by simp only [World.cell?, b4]; rfl, by simp only [World.cell?, b4]; rfl, by simp only [World.cell?, b4]; rfl, i2, i3, by simp, by simp⟩
    | succ i => simp at h
  refine (Same_eq (w := W) (xs := [1, 0, 0]) (n := 3) (O := [(7, [1], [0, 9])]) rfl (s1.of_block fun k hk => f.block k (s1.lt hk) id) i1 (by omega) (by simp) (o1.of_fr f) o2).mono ?_
  rintro e w' ⟨rfl, h⟩
  exact ⟨rfl, f.trans h fun _ h => h.elim⟩
end Go.Proofs.Ythjokcjdphempaa

namespace Go.Proofs.Ythjokcjdphempaa
open Go.RowKit Hp Go.Shelf

set_option maxRecDepth 100000 in
set_option maxHeartbeats 4000000 in
theorem sanity_yes (w : World) : Calls Try.prog 10 #[] w fun e w' => e = .returned (.bool true) ∧ Fr (fun _ => False) w w' := by
  go_enter Try.func10, Try.ntmps10
  go_wp2_with (first
    | (go_at_call 26; first
        | (have q := H0.out; refine (New_no).mono ?_; rintro e w2 ⟨rfl, hf⟩; have H1 := Lib.hid (H0.out.of_fr hf); clear hf q)
        | (refine (san_new (w := w)).mono ?_; rintro e w1 ⟨hb, rfl, hs⟩; have H0 := Lib.hid hs; clear hs))
    | (go_at_call 27; refine (san_grow H1.out).mono ?_; rintro e w3 ⟨rfl, hs⟩; have H2 := Lib.hid (show San w hb sA1 0 w3 from hs); clear hs)
    | (go_at_call 14; first
        | (have q := H11.out; refine (san_full (to := 2) (tag := 1) (refs := 0) (raws := 250) H11.out (by omega) (by decide) (by decide) (by decide) (by decide) (by rw [sA6_live]; decide)).mono ?_; rintro e w12 ⟨rfl, hs⟩; have H12 := Lib.hid hs; clear hs q)
        | (have q := H10.out; refine (san_make (to := 2) (tag := 1) (refs := 0) (raws := 240) H10.out (by omega) (by decide) (by decide) (by decide) (by decide) (by rw [sA5_live]; decide)).mono ?_; rintro e w11 ⟨rfl, hs⟩; have H11 := Lib.hid (show San w hb sA6 2 w11 from hs); clear hs q)
        | (refine (san_make (to := 0) (tag := 7) (refs := 1) (raws := 2) H2.out (by omega) (by decide) (by decide) (by decide) (by decide) (by rw [sA1_live]; decide)).mono ?_; rintro e w4 ⟨rfl, hs⟩; have H3 := Lib.hid (show San w hb sA2 1 w4 from hs); clear hs))
    | (go_at_call 28; refine (san_set (i := 0) (m := 0) (r := 0) (j := 0) (n := 1) H3.out (by kernel_rfl) (by decide) (by kernel_rfl)).mono ?_; rintro e w5 ⟨rfl, hs⟩; have H4 := Lib.hid (show San w hb sA3 1 w5 from hs); clear hs)
    | (go_at_call 29; refine (san_store (i := 0) (m := 0) (r := 1) (v := 9) H4.out (by kernel_rfl) (by decide)).mono ?_; rintro e w6 ⟨rfl, hs⟩; have H5 := Lib.hid (show San w hb sA4 1 w6 from hs); clear hs)
    | (go_at_call 13; have q0 := san_dump H5.out; rw [sA4_dump, sA4_slots, sA4_len] at q0; refine q0.mono ?_; rintro e w7 ⟨a1, k1, a2, k2, rfl, s1, o1, hs⟩; have H6 := Lib.hid (And.intro s1 (And.intro o1 hs)); clear s1 o1 hs q0)
    | (go_at_call 16; refine (lit_same H6.out.1 H6.out.2.1).mono ?_; rintro e w8 ⟨rfl, hf⟩; have H7 := Lib.hid (H6.out.2.2.of_fr hf); clear hf)
    | (go_at_call 12; have q0 := san_live H7.out; rw [sA4_live] at q0; refine q0.mono ?_; rintro e w9 ⟨rfl, hs⟩; have H8 := Lib.hid hs; clear hs q0)
    | (go_at_call 30; refine (san_get (j := 1) (i := 0) (m := 0) (r := 0) (n := 1) H8.out (by decide) (by kernel_rfl) (by kernel_rfl)).mono ?_; rintro e w10 ⟨rfl, hs⟩; have H9 := Lib.hid (show San w hb sA5 1 w10 from hs); clear hs)
    | (go_at_call 31; refine (san_alike (i := 0) (j := 1) (n := 1) H9.out (by kernel_rfl) (by kernel_rfl)).mono ?_; rintro e w11 ⟨rfl, hs⟩; have H10 := Lib.hid hs; clear hs)
    | (go_at_call 32; refine (san_load (i := 1) (m := 0) (r := 1) (v := 9) H12.out (by kernel_rfl) (by kernel_rfl)).mono ?_; rintro e w13 ⟨rfl, hs⟩; have H13 := Lib.hid hs; clear hs))
  go_ret
  obtain ⟨_, _, _, _, _, _, _, h6⟩ := H13.out
  exact ⟨rfl, h6⟩
end Go.Proofs.Ythjokcjdphempaa
