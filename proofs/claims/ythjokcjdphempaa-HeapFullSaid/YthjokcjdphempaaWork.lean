/- (*Heap).work: the code. -/
import Derived.Test.YthjokcjdphempaaBegin
namespace Go.Proofs.Ythjokcjdphempaa
open Go.RowKit Hp Go.Shelf

def lenAt (hb : Nat) (w : World) : Nat :=
  match w.cell? ⟨hb, 13, none⟩ with
  | some (.slice _ n _) => n
  | _ => 0

set_option maxRecDepth 100000 in
set_option maxHeartbeats 2000000 in
theorem work_core {hb : Nat} {c0 units now : Int} {w : World} {J : Int → Nat → World → Prop} {M E : World → Prop} {n0 : Nat}
    (hc0 : 0 ≤ c0 ∧ c0 ≤ 1000000000000) (hu : 0 ≤ units ∧ units ≤ 1000000000000) (hnow : 0 ≤ now ∧ now ≤ 1) (h0 : J c0 n0 w)
    (hcell : ∀ c n W, J c n W → W.cell? ⟨hb, 2, none⟩ = some (.int .i64 c) ∧ (∃ ta tc, W.cell? ⟨hb, 13, none⟩ = some (.slice ta n tc) ∧ n ≤ 900000000000) ∧ W.cell? ⟨hb, 11, none⟩ = some (.int .i64 now))
    (hstep : ∀ c n W, J c n W → 0 < n → c < c0 + units → ∃ b o tc r, n ≤ tc ∧ tc ≤ 9223372036854775807 ∧ W.cell? ⟨hb, 13, none⟩ = some (.slice (some ⟨b, o, none⟩) n tc) ∧ W.cell? ⟨b, o, none⟩ = some (.int .i64 r) ∧
      Calls Try.prog 84 #[.pointer (some ⟨hb, 0, none⟩), .int .i64 r] W fun e W1 => ∃ to, e = .returned (.int .i64 to) ∧ W1.cell? ⟨hb, 13, none⟩ = some (.slice (some ⟨b, o, none⟩) n tc) ∧ W1.frozen? ⟨hb, 13, none⟩ = false ∧
        ∃ c', J c' (n - 1) (W1.setCell ⟨hb, 13, none⟩ (.slice (if tc = 1 then some ⟨b, o, none⟩ else some ⟨b, o + 1, none⟩) (n - 1) (tc - 1))))
    (hstop : ∀ c n W, J c n W → 0 < n → c0 + units ≤ c → E W)
    (hend : ∀ c W, J c 0 W → Calls Try.prog 85 #[.pointer (some ⟨hb, 0, none⟩), .int .i64 (1 - now)] W fun e W1 => ∃ r : Int, e = .returned (.int .i64 r) ∧ M W1)
    (hM : ∀ W1, M W1 → (∃ bv, W1.cell? ⟨hb, 14, none⟩ = some (.bool bv)) ∧ (∀ k, W1.frozen? ⟨hb, k, none⟩ = false) ∧ ∃ mj, W1.cell? ⟨hb, 5, none⟩ = some (.int .i64 mj) ∧
      E ((W1.setCell ⟨hb, 14, none⟩ (.bool false)).setCell ⟨hb, 5, none⟩ (.int .i64 (wrap64 (mj + 1))))) :
    Calls Try.prog 59 #[.pointer (some ⟨hb, 0, none⟩), .int .i64 units] w fun e w' => e = .returned (.tuple #[]) ∧ E w' := by
  have AC := Lib.hid hcell
  have AS := Lib.hid hstep
  have AT := Lib.hid hstop
  have AE := Lib.hid hend
  have AM := Lib.hid hM
  have A0 := Lib.hid h0
  obtain ⟨k1, _, _⟩ := hcell _ _ _ h0
  obtain ⟨c01, c02⟩ := hc0
  obtain ⟨u1, u2⟩ := hu
  obtain ⟨now1, now2⟩ := hnow
  clear hcell hstep hstop hend hM h0
  go_enter Try.func59, Try.ntmps59
  go_wp2
  go_loopw [] (fun wr => ∃ c n, J c n wr) (fun wr => lenAt hb wr)
  case atStart => exact ⟨c0, n0, A0.out⟩
  case round =>
    obtain ⟨c, n, hj⟩ := hrel
    obtain ⟨k2, ⟨ta, tc0, k3, hn9⟩, k4⟩ := AC.out _ _ _ hj
    clear k1
    have hmeas : lenAt hb wr = n := by unfold lenAt; rw [k3]
    rw [hmeas]
    by_cases hn : 0 < n
    · by_cases hlt : c < c0 + units
      · obtain ⟨b, o, tc, r, h1, h2, h3, h4, hcall⟩ := AS.out _ _ _ hj hn hlt
        rw [h3] at k3
        cases k3
        have HC := Lib.hid hcall
        have Hm := Lib.hid hmeas
        clear hcall hj k4 hmeas
        go_wp2_with (go_at_call 84; refine HC.out.mono ?_; rintro e W1 ⟨to, rfl, k5, k6, c', hj1⟩; have HJ := Lib.hid hj1; clear hj1)
        go_roundw
        case rel => exact ⟨c', n - 1, HJ.out⟩
        case measure =>
          have h7 := (AC.out _ _ _ HJ.out).2.1
          obtain ⟨_, _, h8, _⟩ := h7
          have : lenAt hb (W1.setCell ⟨hb, 13, none⟩ (.slice (if tc0 = 1 then some ⟨b, o, none⟩ else some ⟨b, o + 1, none⟩) (n - 1) (tc0 - 1))) = n - 1 := by unfold lenAt; rw [h8]
          rw [this]; omega
      · have he := AT.out _ _ _ hj hn (by omega)
        have HE := Lib.hid he
        clear he hj k4 hmeas
        go_wp2
        go_end0
        exact ⟨rfl, HE.out⟩
    · have hn0 : n = 0 := by omega
      subst hn0
      have HC := Lib.hid (AE.out _ _ hj)
      clear hj hmeas
      go_wp2_with (go_at_call 85; refine HC.out.mono ?_; rintro e W1 ⟨r, rfl, hm⟩; obtain ⟨⟨bv, m1⟩, m2, mj, m3, he⟩ := AM.out W1 hm; have m4 := m2 14; have m5 := m2 5; have HE := Lib.hid he; clear he hm m2)
      go_end0
      exact ⟨rfl, HE.out⟩
end Go.Proofs.Ythjokcjdphempaa

namespace Go.Proofs.Ythjokcjdphempaa
open Go.RowKit Hp Go.Shelf

set_option maxHeartbeats 1000000 in
theorem finish_idle {hb : Nat} {w : World} (d1 : w.cell? ⟨hb, 14, none⟩ = some (.bool false)) :
    Calls Try.prog 64 #[.pointer (some ⟨hb, 0, none⟩)] w fun e w' => e = .returned (.tuple #[]) ∧ w = w' := by
  go_enter Try.func64, Try.ntmps64
  go_wp2
  go_end0
  exact ⟨rfl, rfl⟩

set_option maxRecDepth 100000 in
set_option maxHeartbeats 1000000 in
theorem finish_core {hb now n : Nat} {a : Option Addr} {c : Nat} {w : World} {E : World → Prop} (hnow : now < 2) (hn : n ≤ 900000000000) (d1 : w.cell? ⟨hb, 14, none⟩ = some (.bool true)) (d2 : w.cell? ⟨hb, 11, none⟩ = some (.int .i64 now))
    (d3 : w.cell? ⟨hb, 8 + (1 - now), none⟩ = some (.slice a n c))
    (H : ∀ W : World, W.heap = w.heap → W.os = w.os → W.tape = w.tape → W.output = w.output → Calls Try.prog 59 #[.pointer (some ⟨hb, 0, none⟩), .int .i64 (n + 1)] W fun e w' => e = .returned (.tuple #[]) ∧ E w') :
    Calls Try.prog 64 #[.pointer (some ⟨hb, 0, none⟩)] w fun e w' => e = .returned (.tuple #[]) ∧ E w' := by
  have AH := Lib.hid H
  clear H
  obtain ⟨m, hm⟩ : ∃ m, m = 1 - now := ⟨_, rfl⟩
  have hmi : (1 : Int) - (now : Int) = (m : Int) := by omega
  have m1 : (0 : Int) ≤ (m : Int) := by omega
  have m2 : (m : Int) < 3 := by omega
  have m3 : m < 3 := by omega
  rw [← hm] at d3
  clear hm
  have hw : wrap64 (1 - (now : Int)) = (m : Int) := by rw [← hmi]; unfold wrap64; omega
  go_enter Try.func64, Try.ntmps64
  go_wp2
  refine wp_region_z (fun W => W.cell? ⟨hb, 11, none⟩ = some (.int .i64 now) ∧ W.cell? ⟨hb, 8 + m, none⟩ = some (.slice a n c)) 13 (by kernel_rfl) ?_
  have hS : (w.drew).cell? ⟨hb, 11, none⟩ = some (.int .i64 now) ∧ (w.drew).cell? ⟨hb, 8 + m, none⟩ = some (.slice a n c) := ⟨d2, d3⟩
  refine anyZ_marks (fuel := 3) (a' := ?a1) [true, true, true, true, true, true, true, true, true, true, true, false, false, false] rfl hS (fun _ _ d _ _ h => by cases d <;> exact h) (by kernel_rfl) (fun W hW => ?_) ?_
  rotate_left
  · obtain ⟨s1, s2⟩ := hW
    simp only [pick]
    repeat (go_big_quiet_step (fail))
    refine wpQuiet_nil ?_
    show _ = _
    with_reducible rfl
  refine anyZ_step 11 rfl (by kernel_rfl) rfl (fun K hK => ?_)
  go_simp
  refine hK _ _ (.inr hS) ?_
  clear hK K
  refine anyZ_step 12 rfl (by kernel_rfl) rfl (fun K hK => ?_)
  go_simp
  try go_bits
  refine hK _ _ (.inr hS) ?_
  clear hK K
  refine anyZ_step 13 rfl (by kernel_rfl) rfl (fun K hK => ?_)
  go_simp
  go_at_call 59
  refine (AH.out w.drew rfl rfl rfl rfl).mono ?_
  rintro e w' ⟨rfl, he⟩
  refine hK _ _ (.inl (by kernel_rfl)) ?_
  clear hK K hS
  refine anyZ_done (by kernel_rfl) ?_ _
  have HE := Lib.hid he
  clear he
  go_end0
  exact ⟨rfl, HE.out⟩

set_option maxRecDepth 100000 in
set_option maxHeartbeats 1000000 in
/-- pay, a collection is under way. -/
theorem pay_busy {hb : Nat} {words : Int} {w : World} {E : World → Prop} (hw : 0 ≤ words ∧ words ≤ 200000000000) (d1 : w.cell? ⟨hb, 14, none⟩ = some (.bool true))
    (H : ∀ n, Calls Try.prog 59 #[.pointer (some ⟨hb, 0, none⟩), .int .i64 (4 * words)] (w.drewN n) fun e w' => e = .returned (.tuple #[]) ∧ E w') :
    Calls Try.prog 61 #[.pointer (some ⟨hb, 0, none⟩), .int .i64 words] w fun e w' => e = .returned (.tuple #[]) ∧ E w' := by
  have AH := Lib.hid H
  obtain ⟨w1, w2⟩ := hw
  clear H
  go_enter Try.func61, Try.ntmps61
  go_wp2
  go_quiet (fail)
  have d2 : (w.drewN nq).cell? ⟨hb, 14, none⟩ = some (.bool true) := d1
  go_wp2_with (go_at_call 59; refine (AH.out _).mono ?_; rintro e w' ⟨rfl, he⟩; have HE := Lib.hid he; clear he)
  go_end0
  exact ⟨rfl, HE.out⟩

set_option maxRecDepth 100000 in
set_option maxHeartbeats 1000000 in
/-- pay, no collection is under way, and none begins. -/
theorem pay_idle {hb now n c : Nat} {a : Option Addr} {words room : Int} {w : World} (hnow : now < 2) (hn : n ≤ 900000000000) (hroom : 0 ≤ room ∧ room ≤ 65536) (d1 : w.cell? ⟨hb, 14, none⟩ = some (.bool false)) (d2 : w.cell? ⟨hb, 11, none⟩ = some (.int .i64 now))
    (d3 : w.cell? ⟨hb, 8 + now, none⟩ = some (.slice a n c)) (d4 : w.cell? ⟨hb, 6, none⟩ = some (.int .i64 room)) (hlt : (n : Int) < room / 2) :
    Calls Try.prog 61 #[.pointer (some ⟨hb, 0, none⟩), .int .i64 words] w fun e w' => e = .returned (.tuple #[]) ∧ ∃ k, w' = w.drewN k := by
  obtain ⟨r1, r2⟩ := hroom
  have n1 : (0 : Int) ≤ (now : Int) := by omega
  have n2 : (now : Int) < 3 := by omega
  have hq : room.tdiv 2 = room / 2 := Int.tdiv_eq_ediv_of_nonneg r1
  obtain ⟨h, hh⟩ : ∃ h, h = room / 2 := ⟨_, rfl⟩
  have h1 : 0 ≤ h ∧ h ≤ 65536 := by omega
  obtain ⟨h2, h3⟩ := h1
  rw [← hh] at hlt hq
  clear hh
  go_enter Try.func61, Try.ntmps61
  go_wp2
  go_quiet (fail)
  have d1' : (w.drewN nq).cell? ⟨hb, 14, none⟩ = some (.bool false) := d1
  go_wp2
  go_end0
  exact ⟨rfl, _, rfl⟩

set_option maxRecDepth 100000 in
set_option maxHeartbeats 1000000 in
/-- pay, a collection begins. -/
theorem pay_begins {hb now n c : Nat} {a : Option Addr} {words room : Int} {w : World} {M E : World → Prop} (hnow : now < 2) (hn : n ≤ 900000000000) (hw : 0 ≤ words ∧ words ≤ 200000000000) (hroom : 0 ≤ room ∧ room ≤ 65536)
    (d1 : w.cell? ⟨hb, 14, none⟩ = some (.bool false)) (d2 : w.cell? ⟨hb, 11, none⟩ = some (.int .i64 now))
    (d3 : w.cell? ⟨hb, 8 + now, none⟩ = some (.slice a n c)) (d4 : w.cell? ⟨hb, 6, none⟩ = some (.int .i64 room)) (hle : room / 2 ≤ (n : Int))
    (H58 : ∀ k, Calls Try.prog 58 #[.pointer (some ⟨hb, 0, none⟩)] (w.drewN k) fun e w' => e = .returned (.tuple #[]) ∧ M w')
    (H59 : ∀ w1, M w1 → w1.cell? ⟨hb, 14, none⟩ = some (.bool true) ∧ Calls Try.prog 59 #[.pointer (some ⟨hb, 0, none⟩), .int .i64 (4 * words)] w1 fun e w' => e = .returned (.tuple #[]) ∧ E w') :
    Calls Try.prog 61 #[.pointer (some ⟨hb, 0, none⟩), .int .i64 words] w fun e w' => e = .returned (.tuple #[]) ∧ E w' := by
  obtain ⟨r1, r2⟩ := hroom
  obtain ⟨w1, w2⟩ := hw
  have A58 := Lib.hid H58
  have A59 := Lib.hid H59
  have n1 : (0 : Int) ≤ (now : Int) := by omega
  have n2 : (now : Int) < 3 := by omega
  have hq : room.tdiv 2 = room / 2 := Int.tdiv_eq_ediv_of_nonneg r1
  obtain ⟨h, hh⟩ : ∃ h, h = room / 2 := ⟨_, rfl⟩
  have h1 : 0 ≤ h ∧ h ≤ 65536 := by omega
  obtain ⟨h2, h3⟩ := h1
  rw [← hh] at hle hq
  clear hh H58 H59
  go_enter Try.func61, Try.ntmps61
  go_wp2
  go_quiet (fail)
  go_wp2_with (first
    | (go_at_call 58; refine (A58.out _).mono ?_; rintro e w3 ⟨rfl, hm⟩; have ⟨k1, hc⟩ := A59.out w3 hm; have HC := Lib.hid hc; clear hm hc)
    | (go_at_call 59; refine HC.out.mono ?_; rintro e w' ⟨rfl, he⟩; have HE := Lib.hid he; clear he))
  go_end0
  exact ⟨rfl, HE.out⟩
end Go.Proofs.Ythjokcjdphempaa
