/- The closures of Get, Set, Load, Store: the index of the reference or word is out of range. -/
import Derived.Test.YthjokcjdphempaaClo
namespace Go.Proofs.Ythjokcjdphempaa
open Go.RowKit Hp Go.Shelf

section
variable {P : Program} {ops : Array Oper} {w : World} {Q : Act → Prop} {a : Act} {o : Oper} {rest : List Oper}
theorem wpStill_want (hw : Region.wanted o (yielded ops a.tmps) = true) (h : ∀ K : Act → Prop, (∀ a, wpStill P ops w Q rest a → K a) → o.still P a w K) : wpStill P ops w Q (o :: rest) a :=
  wpStill_step fun K hK => by rw [if_pos hw]; exact h K hK
theorem wpStill_skip (hw : Region.wanted o (yielded ops a.tmps) = false) (h : wpStill P ops w Q rest (a.put o.dst undef)) : wpStill P ops w Q (o :: rest) a :=
  wpStill_step fun K hK => by rw [if_neg (by rw [hw]; exact Bool.false_ne_true)]; exact hK _ h
end
attribute [local irreducible] wpStill

set_option maxRecDepth 100000 in
set_option maxHeartbeats 1000000 in
theorem get_no2 {hb hx tx ox kx : Nat} {j i m : Nat} {k : Int} {w : World} {L : Lay} {s : HS} (hr : HRep w hb L s) (c1 : w.cell? ⟨hx, 0, none⟩ = some (.pointer (some ⟨hb, 0, none⟩))) (hsl : s.slots.length ≤ 1000000) (c_tx : w.cell? ⟨tx, 0, none⟩ = some (.int .i64 j)) (c_ox : w.cell? ⟨ox, 0, none⟩ = some (.int .i64 i)) (c_kx : w.cell? ⟨kx, 0, none⟩ = some (.int .i64 k)) {A : AHeap} {G : Areas} {φ : Nat → Int} (hi : InvG s G φ A) (hz : Sized s A) (hj : j < s.slots.length) 
    (h0 : A.slots[i]? = some (m + 1)) (hk : k < 0 ∨ ((A.obj m).refs.length : Int) ≤ k) :
    Calls Try.prog 70 #[.pointer (some ⟨hx, 0, none⟩), .pointer (some ⟨tx, 0, none⟩), .pointer (some ⟨ox, 0, none⟩), .pointer (some ⟨kx, 0, none⟩)] w fun e w' => e = .panicked (trouble 1) ∧ Eqw (w.alloc (.cells #[.int .i64 j, .int .i64 i] 3)) w' := by
  have hlt : i < s.slots.length := by rw [hi.rep.slen]; exact (List.getElem?_eq_some_iff.1 h0).1
  have HT := Lib.hid (there2 hr j i hsl (in_slots2.2 ⟨⟨by omega, by omega⟩, by omega, by omega⟩))
  have hrA := hr.of_fr (fr_alloc1 w (.cells #[.int .i64 j, .int .i64 i] 3)) (fun _ _ h => h)
  obtain ⟨b, p, ho⟩ := slot_some hrA hi hz h0
  obtain ⟨x, hx1, x2, x3, x4, x5, x6⟩ := ho.hdr
  have e0 := ho.head
  rw [← hx1] at e0
  have HO := Lib.hid ho.call
  have f2 := ho.fits.2.1
  obtain ⟨sz, hsz⟩ : ∃ sz, sz = (A.obj m).size := ⟨_, rfl⟩
  have hsz0 : sz = 1 + (A.obj m).refs.length + (A.obj m).raws.length := by rw [hsz]; rfl
  have hszp : 0 < sz := by omega
  rw [← hsz] at HO
  have H46 := Lib.hid (fun W => refsOf_any x W x2 x3)
  rw [x4] at H46
  have e1 := alloc_cell c1 (.cells #[.int .i64 j, .int .i64 i] 3)
  have e_tx := alloc_cell c_tx (.cells #[.int .i64 j, .int .i64 i] 3)
  have e_ox := alloc_cell c_ox (.cells #[.int .i64 j, .int .i64 i] 3)
  have e_kx := alloc_cell c_kx (.cells #[.int .i64 j, .int .i64 i] 3)
  obtain ⟨nr, hnr⟩ : ∃ nr, nr = (A.obj m).refs.length := ⟨_, rfl⟩
  rw [← hnr] at H46 f2 hk
  have H46c : ∀ W : World, Calls Try.prog 46 #[.int .i64 x] W fun e w' => e = .returned (.int .i64 nr) ∧ w' = W := fun W => (H46.out W).mono fun _ _ ⟨h1, h2⟩ => ⟨h1, h2.symm⟩
  clear hr hi hz ho hsz hx1 x4 x5 x6 hrA h0 hsz0 hnr
  rcases Int.lt_or_le k 0 with hk0 | hk0
  · have hd : decide (0 ≤ k) = false := by simp; omega
    clear hk hk0
    go_enter Try.func70, Try.ntmps70
    go_wp2_with (first | (go_at_call 50; refine HT.out.mono ?_; rintro e w' ⟨rfl, rfl⟩) | (go_at_call 55; refine (HO.out _ rfl).mono ?_; rintro e w' ⟨rfl, rfl⟩))
    refine region_tail 10 (by kernel_rfl) (by kernel_rfl) ?_
    simp only [List.take_succ_cons, List.take_zero, List.drop_succ_cons, List.drop_zero]
    refine wpStill_want rfl (fun K hK => ?_)
    have HK := Lib.hid hK
    clear hK
    go_simp
    refine HK.out _ ?_
    clear HK K
    refine wpStill_want rfl (fun K hK => ?_)
    have HK := Lib.hid hK
    clear hK
    go_simp
    refine HK.out _ ?_
    clear HK K
    refine wpStill_want rfl (fun K hK => ?_)
    have HK := Lib.hid hK
    clear hK
    go_simp
    refine HK.out _ ?_
    clear HK K
    refine wpStill_skip rfl ?_
    refine wpStill_skip rfl ?_
    refine wpStill_skip rfl ?_
    refine wpStill_skip rfl ?_
    refine wpStill_skip rfl ?_
    refine wpStill_skip rfl ?_
    refine wpStill_want rfl (fun K hK => ?_)
    have HK := Lib.hid hK
    clear hK
    go_simp
    refine HK.out _ ?_
    clear HK K
    refine wpStill_nil ?_
    go_wp2_with (go_at_call 51; refine (fail_no _ _).mono ?_; rintro e w' ⟨rfl, rfl⟩)
    exact ⟨rfl, rfl, rfl, rfl, rfl, rfl⟩
  · have hd : decide (0 ≤ k) = true := by simp; omega
    have hk1 : decide (k < (nr : Int)) = false := by simp; omega
    clear hk hk0
    go_enter Try.func70, Try.ntmps70
    go_wp2_with (first | (go_at_call 50; refine HT.out.mono ?_; rintro e w' ⟨rfl, rfl⟩) | (go_at_call 55; refine (HO.out _ rfl).mono ?_; rintro e w' ⟨rfl, rfl⟩))
    refine region_tail 10 (by kernel_rfl) (by kernel_rfl) ?_
    simp only [List.take_succ_cons, List.take_zero, List.drop_succ_cons, List.drop_zero]
    refine wpStill_want rfl (fun K hK => ?_)
    have HK := Lib.hid hK
    clear hK
    go_simp
    refine HK.out _ ?_
    clear HK K
    refine wpStill_want rfl (fun K hK => ?_)
    have HK := Lib.hid hK
    clear hK
    go_simp
    refine HK.out _ ?_
    clear HK K
    refine wpStill_want rfl (fun K hK => ?_)
    have HK := Lib.hid hK
    clear hK
    go_simp
    refine HK.out _ ?_
    clear HK K
    refine wpStill_want rfl (fun K hK => ?_)
    have HK := Lib.hid hK
    clear hK
    go_simp
    refine HK.out _ ?_
    clear HK K
    refine wpStill_want rfl (fun K hK => ?_)
    have HK := Lib.hid hK
    clear hK
    go_simp
    refine HK.out _ ?_
    clear HK K
    refine wpStill_want rfl (fun K hK => ?_)
    have HK := Lib.hid hK
    clear hK
    go_simp
    refine HK.out _ ?_
    clear HK K
    refine wpStill_want rfl (fun K hK => ?_)
    have HK := Lib.hid hK
    clear hK
    go_simp
    refine HK.out _ ?_
    clear HK K
    refine wpStill_want rfl (fun K hK => ?_)
    have HK := Lib.hid hK
    clear hK
    go_simp
    refine ⟨_, H46c _, HK.out _ ?_⟩
    clear HK K
    refine wpStill_want rfl (fun K hK => ?_)
    have HK := Lib.hid hK
    clear hK
    go_simp
    refine HK.out _ ?_
    clear HK K
    refine wpStill_want rfl (fun K hK => ?_)
    have HK := Lib.hid hK
    clear hK
    go_simp
    refine HK.out _ ?_
    clear HK K
    refine wpStill_nil ?_
    go_wp2_with (go_at_call 51; refine (fail_no _ _).mono ?_; rintro e w' ⟨rfl, rfl⟩)
    exact ⟨rfl, rfl, rfl, rfl, rfl, rfl⟩

set_option maxRecDepth 100000 in
set_option maxHeartbeats 1000000 in
theorem set_no2 {hb hx ox fx kx : Nat} {i j m : Nat} {k : Int} {w : World} {L : Lay} {s : HS} (hr : HRep w hb L s) (c1 : w.cell? ⟨hx, 0, none⟩ = some (.pointer (some ⟨hb, 0, none⟩))) (hsl : s.slots.length ≤ 1000000) (c_ox : w.cell? ⟨ox, 0, none⟩ = some (.int .i64 i)) (c_fx : w.cell? ⟨fx, 0, none⟩ = some (.int .i64 j)) (c_kx : w.cell? ⟨kx, 0, none⟩ = some (.int .i64 k)) {A : AHeap} {G : Areas} {φ : Nat → Int} (hi : InvG s G φ A) (hz : Sized s A) (hj : j < s.slots.length) 
    (h0 : A.slots[i]? = some (m + 1)) (hk : k < 0 ∨ ((A.obj m).refs.length : Int) ≤ k) :
    Calls Try.prog 67 #[.pointer (some ⟨hx, 0, none⟩), .pointer (some ⟨ox, 0, none⟩), .pointer (some ⟨fx, 0, none⟩), .pointer (some ⟨kx, 0, none⟩)] w fun e w' => e = .panicked (trouble 1) ∧ Eqw (w.alloc (.cells #[.int .i64 i, .int .i64 j] 3)) w' := by
  have hlt : i < s.slots.length := by rw [hi.rep.slen]; exact (List.getElem?_eq_some_iff.1 h0).1
  have HT := Lib.hid (there2 hr i j hsl (in_slots2.2 ⟨⟨by omega, by omega⟩, by omega, by omega⟩))
  have hrA := hr.of_fr (fr_alloc1 w (.cells #[.int .i64 i, .int .i64 j] 3)) (fun _ _ h => h)
  obtain ⟨b, p, ho⟩ := slot_some hrA hi hz h0
  obtain ⟨x, hx1, x2, x3, x4, x5, x6⟩ := ho.hdr
  have e0 := ho.head
  rw [← hx1] at e0
  have HO := Lib.hid ho.call
  have f2 := ho.fits.2.1
  obtain ⟨sz, hsz⟩ : ∃ sz, sz = (A.obj m).size := ⟨_, rfl⟩
  have hsz0 : sz = 1 + (A.obj m).refs.length + (A.obj m).raws.length := by rw [hsz]; rfl
  have hszp : 0 < sz := by omega
  rw [← hsz] at HO
  have H46 := Lib.hid (fun W => refsOf_any x W x2 x3)
  rw [x4] at H46
  have e1 := alloc_cell c1 (.cells #[.int .i64 i, .int .i64 j] 3)
  have e_ox := alloc_cell c_ox (.cells #[.int .i64 i, .int .i64 j] 3)
  have e_fx := alloc_cell c_fx (.cells #[.int .i64 i, .int .i64 j] 3)
  have e_kx := alloc_cell c_kx (.cells #[.int .i64 i, .int .i64 j] 3)
  obtain ⟨nr, hnr⟩ : ∃ nr, nr = (A.obj m).refs.length := ⟨_, rfl⟩
  rw [← hnr] at H46 f2 hk
  have H46c : ∀ W : World, Calls Try.prog 46 #[.int .i64 x] W fun e w' => e = .returned (.int .i64 nr) ∧ w' = W := fun W => (H46.out W).mono fun _ _ ⟨h1, h2⟩ => ⟨h1, h2.symm⟩
  clear hr hi hz ho hsz hx1 x4 x5 x6 hrA h0 hsz0 hnr
  rcases Int.lt_or_le k 0 with hk0 | hk0
  · have hd : decide (0 ≤ k) = false := by simp; omega
    clear hk hk0
    go_enter Try.func67, Try.ntmps67
    go_wp2_with (first | (go_at_call 50; refine HT.out.mono ?_; rintro e w' ⟨rfl, rfl⟩) | (go_at_call 55; refine (HO.out _ rfl).mono ?_; rintro e w' ⟨rfl, rfl⟩))
    refine region_tail 10 (by kernel_rfl) (by kernel_rfl) ?_
    simp only [List.take_succ_cons, List.take_zero, List.drop_succ_cons, List.drop_zero]
    refine wpStill_want rfl (fun K hK => ?_)
    have HK := Lib.hid hK
    clear hK
    go_simp
    refine HK.out _ ?_
    clear HK K
    refine wpStill_want rfl (fun K hK => ?_)
    have HK := Lib.hid hK
    clear hK
    go_simp
    refine HK.out _ ?_
    clear HK K
    refine wpStill_want rfl (fun K hK => ?_)
    have HK := Lib.hid hK
    clear hK
    go_simp
    refine HK.out _ ?_
    clear HK K
    refine wpStill_skip rfl ?_
    refine wpStill_skip rfl ?_
    refine wpStill_skip rfl ?_
    refine wpStill_skip rfl ?_
    refine wpStill_skip rfl ?_
    refine wpStill_skip rfl ?_
    refine wpStill_want rfl (fun K hK => ?_)
    have HK := Lib.hid hK
    clear hK
    go_simp
    refine HK.out _ ?_
    clear HK K
    refine wpStill_nil ?_
    go_wp2_with (go_at_call 51; refine (fail_no _ _).mono ?_; rintro e w' ⟨rfl, rfl⟩)
    exact ⟨rfl, rfl, rfl, rfl, rfl, rfl⟩
  · have hd : decide (0 ≤ k) = true := by simp; omega
    have hk1 : decide (k < (nr : Int)) = false := by simp; omega
    clear hk hk0
    go_enter Try.func67, Try.ntmps67
    go_wp2_with (first | (go_at_call 50; refine HT.out.mono ?_; rintro e w' ⟨rfl, rfl⟩) | (go_at_call 55; refine (HO.out _ rfl).mono ?_; rintro e w' ⟨rfl, rfl⟩))
    refine region_tail 10 (by kernel_rfl) (by kernel_rfl) ?_
    simp only [List.take_succ_cons, List.take_zero, List.drop_succ_cons, List.drop_zero]
    refine wpStill_want rfl (fun K hK => ?_)
    have HK := Lib.hid hK
    clear hK
    go_simp
    refine HK.out _ ?_
    clear HK K
    refine wpStill_want rfl (fun K hK => ?_)
    have HK := Lib.hid hK
    clear hK
    go_simp
    refine HK.out _ ?_
    clear HK K
    refine wpStill_want rfl (fun K hK => ?_)
    have HK := Lib.hid hK
    clear hK
    go_simp
    refine HK.out _ ?_
    clear HK K
    refine wpStill_want rfl (fun K hK => ?_)
    have HK := Lib.hid hK
    clear hK
    go_simp
    refine HK.out _ ?_
    clear HK K
    refine wpStill_want rfl (fun K hK => ?_)
    have HK := Lib.hid hK
    clear hK
    go_simp
    refine HK.out _ ?_
    clear HK K
    refine wpStill_want rfl (fun K hK => ?_)
    have HK := Lib.hid hK
    clear hK
    go_simp
    refine HK.out _ ?_
    clear HK K
    refine wpStill_want rfl (fun K hK => ?_)
    have HK := Lib.hid hK
    clear hK
    go_simp
    refine HK.out _ ?_
    clear HK K
    refine wpStill_want rfl (fun K hK => ?_)
    have HK := Lib.hid hK
    clear hK
    go_simp
    refine ⟨_, H46c _, HK.out _ ?_⟩
    clear HK K
    refine wpStill_want rfl (fun K hK => ?_)
    have HK := Lib.hid hK
    clear hK
    go_simp
    refine HK.out _ ?_
    clear HK K
    refine wpStill_want rfl (fun K hK => ?_)
    have HK := Lib.hid hK
    clear hK
    go_simp
    refine HK.out _ ?_
    clear HK K
    refine wpStill_nil ?_
    go_wp2_with (go_at_call 51; refine (fail_no _ _).mono ?_; rintro e w' ⟨rfl, rfl⟩)
    exact ⟨rfl, rfl, rfl, rfl, rfl, rfl⟩

set_option maxRecDepth 100000 in
set_option maxHeartbeats 1000000 in
theorem load_no2 {hb hx ox kx rx : Nat} {i m : Nat} {k : Int} {w : World} {L : Lay} {s : HS} (hr : HRep w hb L s) (c1 : w.cell? ⟨hx, 0, none⟩ = some (.pointer (some ⟨hb, 0, none⟩))) (hsl : s.slots.length ≤ 1000000) (c_ox : w.cell? ⟨ox, 0, none⟩ = some (.int .i64 i)) (c_kx : w.cell? ⟨kx, 0, none⟩ = some (.int .i64 k)) {A : AHeap} {G : Areas} {φ : Nat → Int} (hi : InvG s G φ A) (hz : Sized s A) 
    (h0 : A.slots[i]? = some (m + 1)) (hk : k < 0 ∨ ((A.obj m).raws.length : Int) ≤ k) :
    Calls Try.prog 72 #[.pointer (some ⟨hx, 0, none⟩), .pointer (some ⟨ox, 0, none⟩), .pointer (some ⟨kx, 0, none⟩), .pointer (some ⟨rx, 0, none⟩)] w fun e w' => e = .panicked (trouble 1) ∧ Eqw (w.alloc (.cells #[.int .i64 i] 3)) w' := by
  have hlt : i < s.slots.length := by rw [hi.rep.slen]; exact (List.getElem?_eq_some_iff.1 h0).1
  have HT := Lib.hid (there1 hr i hsl (in_slots1.2 ⟨by omega, by omega⟩))
  have hrA := hr.of_fr (fr_alloc1 w (.cells #[.int .i64 i] 3)) (fun _ _ h => h)
  obtain ⟨b, p, ho⟩ := slot_some hrA hi hz h0
  obtain ⟨x, hx1, x2, x3, x4, x5, x6⟩ := ho.hdr
  have e0 := ho.head
  rw [← hx1] at e0
  have HO := Lib.hid ho.call
  have f2 := ho.fits.2.1
  obtain ⟨sz, hsz⟩ : ∃ sz, sz = (A.obj m).size := ⟨_, rfl⟩
  have hsz0 : sz = 1 + (A.obj m).refs.length + (A.obj m).raws.length := by rw [hsz]; rfl
  have hszp : 0 < sz := by omega
  rw [← hsz] at HO
  have H69 := Lib.hid (fun W (hc : W.cell? ⟨b, p, none⟩ = some (.int .i64 x)) => raw_no (w := W) (sz := sz) (cap := sz) (k := k) hc hszp (Nat.le_refl _) x2 x3 (by rw [x5]; exact hk))
  have e1 := alloc_cell c1 (.cells #[.int .i64 i] 3)
  have e_ox := alloc_cell c_ox (.cells #[.int .i64 i] 3)
  have e_kx := alloc_cell c_kx (.cells #[.int .i64 i] 3)
  clear hr hi hz ho hsz hx1 x4 x5 x6 hrA h0 hsz0 hk
  go_enter Try.func72, Try.ntmps72
  go_wp2_with (first | (go_at_call 50; refine HT.out.mono ?_; rintro e w' ⟨rfl, rfl⟩) | (go_at_call 55; refine (HO.out _ rfl).mono ?_; rintro e w' ⟨rfl, rfl⟩) | (go_at_call 69; refine (H69.out _ e0).mono ?_; rintro e w' ⟨rfl, rfl⟩))
  exact ⟨rfl, rfl, rfl, rfl, rfl, rfl⟩

end Go.Proofs.Ythjokcjdphempaa
