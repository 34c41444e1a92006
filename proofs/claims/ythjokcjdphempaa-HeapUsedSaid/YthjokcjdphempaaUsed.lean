/- HeapUsed holds: for every setup, number of slots and list of acts, the law of the words in use answers true, and its arguments read as before. No condition. -/
import Derived.Test.YthjokcjdphempaaFit
namespace Go.Proofs.Ythjokcjdphempaa
open Go.RowKit Hp Go.Shelf

set_option maxRecDepth 100000 in
set_option maxHeartbeats 4000000 in
theorem used_law {room young slots : Int} {B n cap : Nat} {X : Option Addr} {w : World} (hA : ActsAt B w X n) (hB : B ≤ w.heap.size) : Calls Try.prog 6 #[.int .i64 room, .int .i64 young, .int .i64 slots, .slice X n cap] w (Yes w) := by
  have HA := Lib.hid hA
  clear hA
  go_enter Try.func6, Try.ntmps6
  go_wp2_with fail
  refine opened_any.mono ?_
  rintro e w1 (⟨rfl, hf⟩ | ⟨hb, L, s, A, rfl, h8, hO, hbig, hwo, hlv, hdb, hcp, hwd⟩)
  · have HF := Lib.hid hf
    clear hf
    go_wp2_with (go_at_call 10; refine (sanity_yes _).mono ?_; rintro e w2 ⟨rfl, hf⟩; have H2 := Lib.hid hf; clear hf)
    go_ret
    exact ⟨rfl, HF.out.trans H2.out fun _ h => h.elim⟩
  have HO := Lib.hid hO
  clear hO hbig hwo hlv hdb hcp hwd
  go_wp2_with fail
  refine (fits_any (HO.out.acts HA.out hB) (by have := HO.out.fr.size; omega)).mono ?_
  rintro e w2 ⟨⟨b, rfl, hn⟩, hf⟩
  have H2 := Lib.hid (HO.out.of_fr hf)
  clear hf HO
  cases b with
  | false =>
    clear hn
    go_wp2_with (go_at_call 10; refine (sanity_yes _).mono ?_; rintro e w3 ⟨rfl, hf⟩; have H3 := Lib.hid hf; clear hf)
    go_ret
    exact ⟨rfl, H2.out.fr.trans H3.out fun _ h => h.elim⟩
  | true =>
    have h300 : n ≤ 300 := hn rfl
    clear hn
    go_wp2
    go_loopw [10] (fun i wr => ∃ k : Nat, k ≤ n ∧ i = .int .i64 k ∧ ∃ L s A, Op room young w.heap.size hb L s A k w wr) (fun i _ => n - (intOf i).toNat)
    case atStart => exact ⟨0, Nat.zero_le _, rfl, _, _, _, H2.out⟩
    case round =>
      obtain ⟨k, hk, rfl, L1, s1, A1, hO⟩ := hrel
      have HO := Lib.hid hO
      clear hO H2
      by_cases hlt : k < n
      · obtain ⟨b, off, rfl, hbB, hi⟩ := HA.out (by omega)
        obtain ⟨kd, a1, a2, a3, a4, ha⟩ := hi k hlt
        obtain ⟨q0, q1, c0, c1, c2, c3, c4, i1, i2, i3, i4⟩ := ha.of_block (HO.out.fr.block b (by omega) id)
        clear hi ha i1 i2 i3 i4
        go_wp2_with fail
        refine (do_any HO.out.rep HO.out.good (by omega) q0).mono ?_
        rintro e w3 ⟨n0, n1, n2, x, rfl, hd⟩
        obtain ⟨L2, s2, A2, hO2, _⟩ := HO.out.did hd
        clear hd HO c0 c1 c2 c3 c4 q0 q1
        obtain ⟨u1, u2, u3⟩ := hO2.used
        have hU := Used_any hO2.rep (fun j hj => by have := u1 j hj; omega)
        have l0 := u1 0 (by omega)
        have l1 := u1 1 (by omega)
        have l2 := u1 2 (by omega)
        have hL : ∀ W, Fr (fun _ => False) w3 W → Calls Try.prog 12 #[.pointer (some ⟨hb, 0, none⟩)] W fun e w' => e = .returned (.int .i64 A2.live) ∧ ∃ L' s', Op room young w.heap.size hb L' s' A2 (k + 1) w w' := fun W hf => by
          have h := hO2.of_fr hf
          refine (Live_ran h.rep h.good).mono ?_
          rintro e w' ⟨rfl, hl⟩
          obtain ⟨L', s', h1, _⟩ := h.live hl
          exact ⟨rfl, L', s', h1⟩
        have HO2 := Lib.hid hO2
        obtain ⟨y, ey⟩ : ∃ y, y = (s2.ar 2).length := ⟨_, rfl⟩
        obtain ⟨o0, e0⟩ : ∃ y, y = (s2.ar 0).length := ⟨_, rfl⟩
        obtain ⟨o1, e1⟩ : ∃ y, y = (s2.ar 1).length := ⟨_, rfl⟩
        obtain ⟨lv, elv⟩ : ∃ y, y = A2.live := ⟨_, rfl⟩
        rw [← ey, ← e0, ← e1] at hU
        rw [← elv] at hL
        rw [← ey, ← e0, ← e1, ← elv] at u3
        rw [← ey] at u2 l2
        rw [← e0] at l0
        rw [← e1] at l1
        have HU := Lib.hid hU
        have HL := Lib.hid hL
        clear hU hL hO2 u1 ey e0 e1 elv
        go_wp2_with fail
        refine HU.out.mono ?_
        rintro e w4 ⟨rfl, hf4⟩
        have H4 := Lib.hid hf4
        clear hf4 HU
        go_wp2_with (go_at_call 12; refine (HL.out _ H4.out).mono ?_; rintro e w5 ⟨rfl, L5, s5, hO5⟩; have H5 := Lib.hid hO5; clear hO5)
        · go_roundw
          case rel => exact ⟨k + 1, by omega, by go_num, _, _, _, H5.out⟩
          case measure => simp [intOf]; omega
        · go_roundw
          case rel => exact ⟨k + 1, by omega, by go_num, _, _, _, HO2.out.of_fr H4.out⟩
          case measure => simp [intOf]; omega
      · go_wp2_with fail
        refine (HO.out.minor_c (by omega)).mono ?_
        rintro e w3 ⟨rfl, L2, s2, hO2, hy2⟩
        have HO2 := Lib.hid hO2
        have HY2 := Lib.hid hy2
        clear hO2 hy2 HO
        go_wp2_with fail
        refine (HO2.out.used_c HY2.out).mono ?_
        rintro e w4 ⟨⟨o, rfl, ho, ho2, _⟩, hO4, _⟩
        obtain ⟨lv, elv⟩ : ∃ y, y = A1.live := ⟨_, rfl⟩
        have HO4 := Lib.hid hO4
        have ELV := Lib.hid elv
        rw [← elv] at ho
        clear hO4 elv HO2 HY2
        go_wp2_with fail
        have hL := HO4.out.live_c _ (Fr.refl _ _)
        rw [← ELV.out] at hL
        refine hL.mono ?_
        rintro e w5 ⟨rfl, L5, s5, hO5⟩
        have HO5 := Lib.hid hO5
        clear hO5 hL HO4
        go_wp2_with fail
        refine (HO5.out.whole_c (by omega)).mono ?_
        rintro e w6 ⟨rfl, L6, s6, hW6⟩
        have HW6 := Lib.hid hW6
        clear hW6 HO5
        go_wp2_with fail
        refine (HW6.out.op.used_c HW6.out.y).mono ?_
        rintro e w7 ⟨⟨o7, rfl, _, _, eo7⟩, hO7, _⟩
        have eo : o7 = lv := by rw [eo7, HW6.out.old]; exact ELV.out.symm
        have HO7 := Lib.hid hO7
        subst eo
        clear hO7 HW6 eo7
        go_wp2_with fail
        have hL := HO7.out.live_c _ (Fr.refl _ _)
        rw [← ELV.out] at hL
        refine hL.mono ?_
        rintro e w8 ⟨rfl, L8, s8, hO8⟩
        have HO8 := Lib.hid hO8
        clear hO8 hL HO7
        go_wp2_with fail
        refine (Slots_any HO8.out.rep).mono ?_
        rintro e w9 ⟨rfl, rfl⟩
        go_wp2_with fail
        refine HO8.out.shrink_c.mono ?_
        rintro e w10 ⟨rfl, L10, s10, A10, hl10, hO10⟩
        have HO10 := Lib.hid hO10
        have HL10 := Lib.hid hl10
        clear hO10 hl10 HO8
        go_wp2_with fail
        refine (HO10.out.whole_c (by omega)).mono ?_
        rintro e w11 ⟨rfl, L11, s11, hW11⟩
        have HW11 := Lib.hid hW11
        clear hW11 HO10
        go_wp2_with fail
        refine (HW11.out.op.used_c HW11.out.y).mono ?_
        rintro e w12 ⟨⟨o12, rfl, _, _, eo12⟩, hO12, _⟩
        have eo : o12 = 0 := by rw [eo12, HW11.out.old]; exact HL10.out
        have HO12 := Lib.hid hO12
        subst eo
        clear hO12 HW11 eo12
        go_wp2_with fail
        refine (sanity_yes _).mono ?_
        rintro e w13 ⟨rfl, hf13⟩
        have HO13 := Lib.hid (HO12.out.of_fr hf13)
        clear hf13 HO12
        go_wp2_with fail
        have hL := HO13.out.live_c _ (Fr.refl _ _)
        rw [HL10.out] at hL
        refine hL.mono ?_
        rintro e w14 ⟨rfl, L14, s14, hO14⟩
        have HO14 := Lib.hid hO14
        clear hO14 hL HO13
        go_wp2
        go_ret
        exact ⟨rfl, HO14.out.fr⟩
end Go.Proofs.Ythjokcjdphempaa

namespace Go.Proofs.Ythjokcjdphempaa
open Go.ChangeShapes Go.WideShapes Go.ChangeAt Go.RowKit Go.Joins

set_option maxRecDepth 100000 in
theorem used_lifted (os : Os) (started : os.Started) (H : Type) (enc : TypeId × Value → H) :
    ReturnsInHanded {} Try.checked os 6 .any (Rows.heapUsedSpec.pre6 enc Try.prog Try.f6 Rows.heapUsedRow.domain false) (Rows.heapUsedSpec.post enc Try.prog Try.f6 false true false false) := by
  refine returnsInHanded_of_change (C := Try.checked) own started (by kernel_rfl) Try.func6
    (ChangeSpec.witness6 (enc := enc) (C := Try.checked) false ⟨#[], #[.int .i64 0, .int .i64 0, .int .i64 0, .slice none 0 0], []⟩ 8 (by kernel_rfl) (by kernel_rfl) (by kernel_rfl) (by kernel_rfl)) ?_
  intro W base args ds gs before hval0 hW hcnd _
  have hval : ∀ (j : Nat) t v, Try.f6.params[j]? = some t → args[j]? = some v → Value.okWide Try.prog W .any base t v := hval0
  have hW' := hW
  obtain ⟨p, q, hA0, hV, rfl, hfz, hnd⟩ := hW
  have hA : DataW.TrodAll enc Try.prog W 0 (fun _ => true) true Try.f6.params.toList args.toList ds p := hA0
  rw [Try.params6] at hA hval
  obtain ⟨v0, vs0, d0, ds0, p0, q0, hargs, rfl, rfl, h0, r0⟩ := trodAll_cons hA
  obtain ⟨v1, vs1, d1, ds1, p1, q1, rfl, rfl, rfl, h1, r1⟩ := trodAll_cons r0
  obtain ⟨v2, vs2, d2, ds2, p2, q2, rfl, rfl, rfl, h2, r2⟩ := trodAll_cons r1
  obtain ⟨v3, vs3, d3, ds3, p3, q3, rfl, rfl, rfl, h3, r3⟩ := trodAll_cons r2
  obtain ⟨rfl, rfl, rfl⟩ := trodAll_nil r3
  obtain rfl : args = #[v0, v1, v2, v3] := by cases args; simp_all
  obtain ⟨rfl, rfl⟩ := trodVars_none hV
  have lt0 : ∀ x ∈ p0, x.block < W.heap.size := by obtain ⟨m, hm⟩ := h0; exact DataW.trod_lt m _ _ _ hm
  have lt1 : ∀ x ∈ p1, x.block < W.heap.size := by obtain ⟨m, hm⟩ := h1; exact DataW.trod_lt m _ _ _ hm
  have lt2 : ∀ x ∈ p2, x.block < W.heap.size := by obtain ⟨m, hm⟩ := h2; exact DataW.trod_lt m _ _ _ hm
  have lt3 : ∀ x ∈ p3, x.block < W.heap.size := by obtain ⟨m, hm⟩ := h3; exact DataW.trod_lt m _ _ _ hm
  obtain ⟨room, rfl⟩ := okWide_int Try.underlying3 (hval 0 3 v0 rfl rfl)
  obtain ⟨young, rfl⟩ := okWide_int Try.underlying3 (hval 1 3 v1 rfl rfl)
  obtain ⟨slots, rfl⟩ := okWide_int Try.underlying3 (hval 2 3 v2 rfl rfl)
  obtain ⟨X, n, cap, rfl, hX⟩ := open_acts (hval 3 22 v3 rfl rfl) h3
  clear hA0 hval0 r0 r1 r2 r3
  refine (used_law hX (Nat.le_refl _)).mono fun e W' ⟨he, hfr⟩ => ?_
  have bel : Below W.heap.size W W' := ⟨hfr.os, hfr.tape, hfr.output, hfr.size, fun k hk => hfr.block k hk id⟩
  subst he
  exact ⟨_, rfl, _, _, _, [], _, [], hW', trodAll_mk1 (shut_bool Try.underlying4 _), (trodAll_cons_mk (Below.trod laidOut (by kernel_rfl) (of_decide_eq_true (by kernel_rfl)) h0 bel lt0)
    (trodAll_cons_mk (Below.trod laidOut (by kernel_rfl) (of_decide_eq_true (by kernel_rfl)) h1 bel lt1) (trodAll_cons_mk (Below.trod laidOut (by kernel_rfl) (of_decide_eq_true (by kernel_rfl)) h2 bel lt2)
    (trodAll_cons_mk (Below.trod laidOut (by kernel_rfl) (of_decide_eq_true (by kernel_rfl)) h3 bel lt3) trodAll_mk0)))), rfl, bel.frame _, fun h => by cases h⟩

theorem used_over : Rows.heapUsedRow.holds Try.pinned (OpenSpec.ofChange Rows.heapUsedSpec) :=
  OpenClaim.holds_of_wide 6 Try.f6 rfl rfl rfl rfl rfl rfl rfl ⟨rfl, rfl, rfl, rfl, rfl⟩ rfl rfl rfl rfl rfl (by kernel_rfl) Try.func6 (by kernel_rfl)
    (of_decide_eq_true (by kernel_rfl)) (by unfold Func.isWrapper; rw [if_neg (of_decide_eq_false (by kernel_rfl))]; exact ⟨rfl, rfl⟩)
    (fun os started H enc _ => used_lifted os started H enc)

/-- The statement. -/
theorem heap_used : Rows.HeapUsedSaid := used_over
end Go.Proofs.Ythjokcjdphempaa
