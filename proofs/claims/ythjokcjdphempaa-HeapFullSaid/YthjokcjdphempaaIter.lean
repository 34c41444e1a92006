/- The walk through (*Heap).pointers$1, the iterator, for every body that keeps what it wants. -/
import Derived.Test.YthjokcjdphempaaRound
import Derived.Test.YthjokcjdphempaaCopy
import Derived.RangeFuncBound
import Derived.RangeFuncLeaves
import Derived.WalkKit
import Derived.OwnWalkIn
import Derived.TacticsInMore
import Derived.LoopNIn
import Derived.LoopIn
namespace Go.Proofs.Ythjokcjdphempaa
open Go.RowKit Hp

attribute [local go_sem] Oper.semAt_some

/-- A call of yield, of the loop l, hands back true, and R holds behind it. -/
def Yields (l : Nat) (x : Value) (W : World) (R : World → Prop) : Prop := YieldAt Fence.wide 0 Try.prog l #[x] W fun e W' => e = .returned (.bool true) ∧ R W'

theorem in_wide {P : Program} {id : Nat} {ops : Array Oper} {b : Bool} {Q : Exit → Act → World → Prop} {a : Act} {w : World} (h : (Code.region id ops b).wpIn Fence.wide 1 P Q a w) : (Code.region id ops b).wp P Q a w := wpIn_wide.1 h

set_option maxRecDepth 100000 in
set_option maxHeartbeats 400000 in
theorem pointers1_any {l B2 B5 B6 hb ns N scap sb so : Nat} {J1 : Nat → World → Prop} {J2 : Nat → World → Prop} {J3 : Nat → Nat → Nat → Nat → Nat → Nat → World → Prop} {E : World → Prop} {w : World} {sv : Value}
    (hsv : sv = .slice (some ⟨sb, so, none⟩) ns scap ∨ (ns = 0 ∧ ∃ a, sv = .slice a 0 scap)) (hns : ns ≤ 1000000000000) (hcap : ns ≤ scap) (hN : N ≤ 1000000000000)
    (hJ1 : ∀ i W, i ≤ ns → J1 i W → W.cell? ⟨B5, 0, none⟩ = some (.pointer (some ⟨hb, 0, none⟩)) ∧ W.cell? ⟨hb, 12, none⟩ = some sv)
    (hy1 : ∀ i W, i < ns → J1 i W → Yields l (.pointer (some ⟨sb, so + i, none⟩)) W (J1 (i + 1)))
    (h12 : ∀ W, J1 ns W → J2 0 W)
    (hJ2 : ∀ j W, J2 j W → ∃ la ln lcap, W.cell? ⟨B6, 0, none⟩ = some (.pointer (some ⟨B2, 0, none⟩)) ∧ W.cell? ⟨B2, 0, none⟩ = some (.slice la ln lcap) ∧ j ≤ ln ∧ ln ≤ N ∧ ln ≤ lcap ∧ (j = ln → E W) ∧
      (j < ln → ∃ lb lo r b off z x, la = some ⟨lb, lo, none⟩ ∧ W.cell? ⟨lb, lo + j, none⟩ = some (.int .i64 r) ∧ W.cell? ⟨B5, 0, none⟩ = some (.pointer (some ⟨hb, 0, none⟩)) ∧
        (∀ W' : World, W'.heap = W.heap → Calls Try.prog 45 #[.pointer (some ⟨hb, 0, none⟩), .int .i64 r] W' fun e W'' => e = .returned (.slice (some ⟨b, off, none⟩) z z) ∧ W' = W'') ∧
        1 ≤ z ∧ z ≤ 1000000000000 ∧ W.cell? ⟨b, off, none⟩ = some (.int .i64 x) ∧ 0 ≤ x ∧ x ≤ 4611686018427387904 ∧ refsN x + 1 ≤ z ∧ ∀ n, J3 j b off z (refsN x) 0 (W.drewN n)))
    (hy3 : ∀ j b off z R k W, k < R → R + 1 ≤ z → J3 j b off z R k W → Yields l (.pointer (some ⟨b, off + (1 + k), none⟩)) W (J3 j b off z R (k + 1)))
    (h32 : ∀ j b off z R W, J3 j b off z R R W → J2 (j + 1) W) (h0 : J1 0 w) :
    Calls Try.prog 86 #[.func (.yield l) #[] #[], .pointer (some ⟨B5, 0, none⟩), .pointer (some ⟨B6, 0, none⟩)] w fun e w' => e = .returned (.tuple #[]) ∧ E w' := by
  have HJ1 := Lib.hid hJ1
  have HY1 := Lib.hid hy1
  have H12 := Lib.hid h12
  have HJ2 := Lib.hid hJ2
  have HY3 := Lib.hid hy3
  have H32 := Lib.hid h32
  have H0 := Lib.hid h0
  have HS := Lib.hid hsv
  clear hJ1 hy1 h12 hJ2 hy3 h32 hsv
  obtain ⟨sa, e1⟩ : ∃ sa, sv = .slice sa ns scap := by
    rcases HS.out with h | ⟨h, a, h'⟩
    · exact ⟨_, h⟩
    · exact ⟨a, by rw [h, h']⟩
  obtain ⟨c1, c2⟩ := HJ1.out 0 w (Nat.zero_le _) h0
  rw [e1] at c2
  clear h0
  refine (callsIn_wide (n := 1)).1 ?_
  refine callsIn_of_wp Try.func86 rfl trivial ?_ rfl
  simp only [Try.ntmps86, List.size_toArray, List.length_cons, List.length_nil, Nat.reduceAdd, Nat.reduceSub, Array.replicate_succ, Array.replicate_zero, List.push_toArray, List.append_toArray, List.nil_append, List.cons_append]
  gi_wp2
  gi_loopw [13] (fun t wr => ∃ i : Nat, t = .int .i64 i ∧ i ≤ ns ∧ J1 i wr) (fun t _ => ns - (intOf t).toNat)
  case atStart => exact ⟨0, rfl, Nat.zero_le _, H0.out⟩
  case round =>
    obtain ⟨i, rfl, hi, hj⟩ := hrel
    obtain ⟨c1', c2'⟩ := HJ1.out i wr hi hj
    rw [e1] at c2'
    clear c1 c2
    by_cases hlt : i < ns
    · have ey : sa = some ⟨sb, so, none⟩ := by
        rcases HS.out with h | ⟨h, _⟩
        · rw [e1] at h; cases h; rfl
        · omega
      subst ey
      obtain ⟨fn, tmps, assign, body, hy, hR⟩ := HY1.out i wr hlt hj
      have HR := Lib.hid hR
      have Hj := Lib.hid hj
      clear hR hj e1
      gi_wp2
      refine HR.out.mono ?_
      rintro e W' ⟨rfl, hj1⟩
      gi_wp2
      go_roundw
      case rel => exact ⟨i + 1, by go_num, by omega, hj1⟩
      case measure => simp [intOf]; omega
    · have hin : i = ns := by omega
      subst hin
      have h2 := H12.out wr hj
      have H2 := Lib.hid h2
      obtain ⟨la, ln, lcap, d1, d2, d3, d4, d5, d6, d7⟩ := HJ2.out 0 wr h2
      have D := Lib.hid (And.intro d6 d7)
      clear d6 d7 h2 hj e1 c1' c2'
      gi_wp2
      clear d1 d2 d3 d4 d5 D
      gi_loopw [5] (fun t wr => ∃ j : Nat, t = .int .i64 j ∧ J2 j wr ∧ j ≤ N) (fun t _ => N - (intOf t).toNat)
      case atStart => exact ⟨0, rfl, H2.out, Nat.zero_le _⟩
      case round =>
        obtain ⟨j, rfl, hj2, hjN⟩ := hrel
        obtain ⟨la, ln, lcap, d1, d2, d3, d4, d5, d6, d7⟩ := HJ2.out j wr hj2
        have D6 := Lib.hid d6
        by_cases hjl : j < ln
        · obtain ⟨lb, lo, r, b, off, z, x, rfl, g1, g2, g3, g4, g5, g6, g7, g8, g9, g10⟩ := d7 hjl
          have G3 := Lib.hid g3
          have G10 := Lib.hid g10
          clear g3 g10 d6 d7 hj2
          gi_wp2
          refine wpIn_wide.2 ?_
          go_quiet ((go_at_call 45; exact quiet_same (G3.out _ rfl)))
          have h3 := Lib.hid (G10.out nq)
          have g6' : ((wr.drewN nq).cell? ⟨b, off, none⟩) = some (.int .i64 x) := g6
          clear d1 d2 g1 g2 g6
          simp only [Exit.then]
          gi_wp2_with (refine ⟨trivial, ?_⟩; gi_at_call 46; refine (callsIn_wide.2 (refsOf_any x _ g7 g8)).mono ?_; rintro e w' ⟨rfl, rfl⟩)
          obtain ⟨R, hR⟩ : ∃ R, R = refsN x := ⟨_, rfl⟩
          rw [← hR] at h3 g9 ⊢
          clear g6' g7 g8 hR
          gi_loopw [46] (fun t wr => ∃ k : Nat, t = .int .i64 k ∧ J3 j b off z R k wr ∧ k ≤ R) (fun t _ => R - (intOf t).toNat)
          case atStart => exact ⟨0, rfl, h3.out, Nat.zero_le _⟩
          case round =>
            clear h3
            obtain ⟨k, rfl, hj3, hkR⟩ := hrel
            by_cases hk : k < R
            · obtain ⟨fn, tmps, assign, body, hy, hR⟩ := HY3.out j b off z R k _ hk g9 hj3
              have HR := Lib.hid hR
              clear hR hj3
              gi_wp2
              refine HR.out.mono ?_
              rintro e W' ⟨rfl, hj5⟩
              gi_wp2
              go_roundw
              case rel => exact ⟨k + 1, by go_num, hj5, by omega⟩
              case measure => simp [intOf]; omega
            · have hkR' : k = R := by omega
              subst hkR'
              have hj4 := Lib.hid (H32.out _ _ _ _ _ _ hj3)
              clear hj3
              gi_wp2
              go_roundw
              case rel => exact ⟨j + 1, by go_num, hj4.out, by omega⟩
              case measure => simp [intOf]; omega
        · have hjl' : j = ln := by omega
          have he := D6.out hjl'
          have He := Lib.hid he
          clear d6 d7 hj2 D6 he
          gi_wp2
          go_end0
          exact ⟨rfl, He.out⟩
