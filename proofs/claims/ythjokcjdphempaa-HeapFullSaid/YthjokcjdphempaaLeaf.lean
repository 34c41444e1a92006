/- The walks through the smallest functions of package heap: what each computes, in whatever world. -/
import Derived.Test.YthjokcjdphempaaRows
import Derived.Test.YthjokcjdphempaaGk
import Derived.WalkKit
import Derived.WalkLawsBesides
import Derived.Lib.Hide
namespace Go.Proofs.Ythjokcjdphempaa
open Go.RowKit Hp

theorem i64_and65535 (n : Int) : bits .and .i64 n 65535 = n % 65536 := by
  have h127 : (BitVec.ofInt 64 65535).toNat = 2 ^ 16 - 1 := by decide
  have key : (BitVec.ofInt 64 n &&& BitVec.ofInt 64 65535).toNat = (n % ((2 ^ 64 : Nat) : Int)).toNat % 2 ^ 16 := by
    rw [BitVec.toNat_and, BitVec.toNat_ofInt, h127, Nat.and_two_pow_sub_one_eq_mod]
  show IntKind.i64.wrap ((BitVec.ofInt 64 n &&& BitVec.ofInt 64 65535).toNat : Nat) = n % 65536
  rw [key, IntKind.wrap_i64]
  omega

theorem i64_or16 (x y : Int) (h0 : 0 ≤ x) (h1 : x < 65536) (h2 : 0 ≤ y) (h3 : y < 65536) : bits .or .i64 x (y * 65536) = x + y * 65536 := by
  have hc : bits .or .i64 x (y * 65536) = bits .or .i64 (y * 65536) x := by simp only [bits, BitVec.or_comm]
  rw [hc, bits_join .i64 60 (by decide) (fun n a b => by rw [IntKind.wrap_i64]; omega) 16 (y * 65536) x (by omega) (by omega) (by omega) h0 (by omega) (by omega)]
  omega

theorem i64_or32 (x y : Int) (h0 : 0 ≤ x) (h1 : x < 4294967296) (h2 : 0 ≤ y) (h3 : y < 65536) : bits .or .i64 x (y * 4294967296) = x + y * 4294967296 := by
  have hc : bits .or .i64 x (y * 4294967296) = bits .or .i64 (y * 4294967296) x := by simp only [bits, BitVec.or_comm]
  rw [hc, bits_join .i64 60 (by decide) (fun n a b => by rw [IntKind.wrap_i64]; omega) 32 (y * 4294967296) x (by omega) (by omega) (by omega) h0 (by omega) (by omega)]
  omega

theorem ret_int {k : IntKind} {a b : Int} (h : a = b) : Ending.returned (.int k a) = .returned (.int k b) := by rw [h]

/-- The greatest word that a header or a reference may be. -/
def Fits (x : Int) : Prop := 0 ≤ x ∧ x ≤ 4611686018427387904

set_option maxHeartbeats 400000 in
theorem areaOf_any (r : Int) (w : World) (h1 : 1 ≤ r) (h2 : r ≤ 4611686018427387904) :
    Calls Try.prog 79 #[.int .i64 r] w fun e w' => e = .returned (.tuple #[.int .i64 (aOf r), .int .i64 (pOf r)]) ∧ w = w' := by
  have e1 : (r - 1) % 4 = (aOf r : Int) := by unfold aOf; omega
  have e2 : (r - 1) / 4 = (pOf r : Int) := by unfold pOf; omega
  have H1 := Lib.hid e1
  have H2 := Lib.hid e2
  clear e1 e2
  go_enter Try.func79, Try.ntmps79
  go_wp2
  go_ret2
  refine ⟨?_, rfl⟩
  show Ending.returned (.tuple #[.int .i64 ((r - 1) % 4), .int .i64 ((r - 1) / 4)]) = _
  rw [H1.out, H2.out]

set_option maxHeartbeats 400000 in
theorem refsOf_any (x : Int) (w : World) (_h1 : 0 ≤ x) (_h2 : x ≤ 4611686018427387904) :
    Calls Try.prog 46 #[.int .i64 x] w fun e w' => e = .returned (.int .i64 (refsN x)) ∧ w = w' := by
  go_enter Try.func46, Try.ntmps46
  go_wp2
  go_ret
  exact ⟨ret_int (by rw [i64_and65535]; unfold refsN; omega), rfl⟩

set_option maxHeartbeats 400000 in
theorem rawsOf_any (x : Int) (w : World) (h1 : 0 ≤ x) (h2 : x ≤ 4611686018427387904) :
    Calls Try.prog 56 #[.int .i64 x] w fun e w' => e = .returned (.int .i64 (rawsN x)) ∧ w = w' := by
  go_enter Try.func56, Try.ntmps56
  go_wp2
  go_ret
  exact ⟨ret_int (by unfold rawsN; omega), rfl⟩

set_option maxHeartbeats 400000 in
theorem tagOf_any (x : Int) (w : World) (_h1 : 0 ≤ x) (_h2 : x ≤ 4611686018427387904) :
    Calls Try.prog 47 #[.int .i64 x] w fun e w' => e = .returned (.int .i64 (tagN x)) ∧ w = w' := by
  go_enter Try.func47, Try.ntmps47
  go_wp2
  go_ret
  exact ⟨ret_int (by rw [i64_and65535]; unfold tagN; omega), rfl⟩

set_option maxHeartbeats 400000 in
theorem sizeOf_any (x : Int) (w : World) (h1 : 0 ≤ x) (h2 : x ≤ 4611686018427387904) :
    Calls Try.prog 80 #[.int .i64 x] w fun e w' => e = .returned (.int .i64 (sizeN x)) ∧ w = w' := by
  have b1 : (refsN x : Int) < 65536 := by unfold refsN; omega
  have b2 : (rawsN x : Int) < 4611686018427387904 := by unfold rawsN; omega
  go_enter Try.func80, Try.ntmps80
  go_wp2_with (first | (go_at_call 46; refine (refsOf_any _ _ h1 h2).mono ?_; rintro e w' ⟨rfl, rfl⟩) | (go_at_call 56; refine (rawsOf_any _ _ h1 h2).mono ?_; rintro e w' ⟨rfl, rfl⟩))
  go_ret
  exact ⟨ret_int (by unfold sizeN; omega), rfl⟩

set_option maxHeartbeats 400000 in
theorem header_any (t r k : Nat) (w : World) (h1 : t < 65536) (h2 : r ≤ 4000) (h3 : k ≤ 4000) :
    Calls Try.prog 81 #[.int .i64 t, .int .i64 r, .int .i64 k] w fun e w' => e = .returned (.int .i64 (hdr t r k)) ∧ w = w' := by
  go_enter Try.func81, Try.ntmps81
  go_wp2
  go_ret
  exact ⟨ret_int (by rw [i64_or16 _ _ (by omega) (by omega) (by omega) (by omega), i64_or32 _ _ (by omega) (by omega) (by omega) (by omega)]; unfold hdr; omega), rfl⟩

set_option maxHeartbeats 400000 in
theorem reference_any (a p : Nat) (w : World) (h1 : a < 4) (h2 : p ≤ 1152921504606846975) :
    Calls Try.prog 82 #[.int .i64 a, .int .i64 p] w fun e w' => e = .returned (.int .i64 (enc a p)) ∧ w = w' := by
  go_enter Try.func82, Try.ntmps82
  go_wp2
  go_ret
  exact ⟨ret_int (by unfold enc; omega), rfl⟩

/-- What a call of package heap panics with. -/
def trouble (e : Int) : List PanicEntry := [{ v := .iface 89 (.agg #[.int .i64 e]), recovered := false }]

set_option maxHeartbeats 400000 in
theorem fail_yes (x : Int) (w : World) :
    Calls Try.prog 51 #[.bool true, .int .i64 x] w fun e w' => e = .returned (.tuple #[]) ∧ w = w' := by
  go_enter Try.func51, Try.ntmps51
  go_wp2
  go_end0
  exact ⟨rfl, rfl⟩

set_option maxHeartbeats 400000 in
theorem fail_no (x : Int) (w : World) :
    Calls Try.prog 51 #[.bool false, .int .i64 x] w fun e w' => e = .panicked (trouble x) ∧ w = w' := by
  go_enter Try.func51, Try.ntmps51
  go_wp2
  exact ⟨rfl, rfl, rfl⟩
end Go.Proofs.Ythjokcjdphempaa
