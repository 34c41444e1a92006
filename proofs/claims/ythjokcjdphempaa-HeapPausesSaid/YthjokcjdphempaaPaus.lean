/- HeapPauses holds: for every setup, number of slots, list of acts and number of times, the law of the bounds of pauses and of work answers true, and its arguments read as before. No condition. -/
import Derived.Test.YthjokcjdphempaaFit
namespace Go.Proofs.Ythjokcjdphempaa
open Go.RowKit Hp Go.Shelf

set_option maxRecDepth 100000 in
set_option maxHeartbeats 8000000 in
theorem bounded_any {hb : Nat} {L : Lay} {s : HS} {w : World} {room young most : Int} (hr : HRep w hb L s) (h1 : s.worst ≤ 8 * (young + most)) (h2 : s.copied ≤ 3 * s.words + room) (hy : 0 ≤ young ∧ young ≤ 65536) (hm : 0 ≤ most ∧ most ≤ 65536) (hrm : 0 ≤ room ∧ room ≤ 65536) (hw : 0 ≤ s.words ∧ s.words ≤ 40000000000) :
    Calls Try.prog 20 #[.pointer (some ⟨hb, 0, none⟩), .int .i64 room, .int .i64 young, .int .i64 most] w (Yes w) := by
  have HS := Lib.hid (Stat_any hr)
  obtain ⟨ob, eob⟩ : ∃ x, x = s.objs := ⟨_, rfl⟩
  obtain ⟨wd, ewd⟩ : ∃ x, x = s.words := ⟨_, rfl⟩
  obtain ⟨cp, ecp⟩ : ∃ x, x = s.copied := ⟨_, rfl⟩
  obtain ⟨ws, ews⟩ : ∃ x, x = s.worst := ⟨_, rfl⟩
  obtain ⟨mn, emn⟩ : ∃ x, x = s.minors := ⟨_, rfl⟩
  obtain ⟨mj, emj⟩ : ∃ x, x = s.majors := ⟨_, rfl⟩
  rw [← eob, ← ewd, ← ecp, ← ews, ← emn, ← emj] at HS
  rw [← ews] at h1
  rw [← ecp, ← ewd] at h2
  rw [← ewd] at hw
  clear eob ewd ecp ews emn emj hr
  have hd1 : decide (ws ≤ 8 * (young + most)) = true := by simp; omega
  have hd2 : decide (cp ≤ 3 * wd + room) = true := by simp; omega
  go_enter Try.func20, Try.ntmps20
  go_wp2_with (go_at_call 18; refine HS.out.mono ?_; rintro e w1 ⟨rfl, hf⟩; have H1 := Lib.hid hf; clear hf)
  go_ret
  exact ⟨rfl, H1.out.trans (fr_alloc1 _ _) fun _ h => h.elim⟩

/-- The bounds of pauses and of work hold. -/
structure Bnd (room young most : Int) (s : HS) (A : AHeap) : Prop where
  big : (s.big : Int) ≤ most
  worst : s.worst ≤ 8 * (young + most)
  debts : debts s ≤ 2 * s.words
  live : 4 * (A.live : Int) ≤ room

theorem Bnd.did {room young most most' : Int} {s s' : HS} {A A' : AHeap} {q : Prop} {sz : Nat} {x : Int} (h : Bnd room young most s A) (hr : Ran q sz x A s s') (hq : q) (h1 : s.room = room) (h2 : s.young = young) (hm : most ≤ most') (hsz : (sz : Int) ≤ most') (hl : 4 * (A'.live : Int) ≤ room) : Bnd room young most' s' A' := by
  have b1 := h.big
  have b2 := h.worst
  have b3 := hr.worst hq
  have b4 := hr.cost hq
  have b5 := hr.acc hq (by rw [h1]; exact h.live) h.debts
  refine ⟨?_, ?_, b5, hl⟩
  · rcases hr.big with e | ⟨_, e⟩
    · rw [e]; omega
    · rw [e]; omega
  · rw [h2] at b4
    omega

theorem Bnd.copied {room young most : Int} {s : HS} {A : AHeap} {k : Nat} (h : Bnd room young most s A) (hG : Good s A k) (hr : 0 ≤ room) : s.copied ≤ 3 * s.words + room := by
  have h1 := h.debts
  have h2 := hG.bounds.2.2.2.1
  unfold Go.Proofs.Ythjokcjdphempaa.debts at h1
  omega

/-- The state of the law's loops. -/
def Pst (room young : Int) (hb : Nat) (w : World) (bd : Nat) (most : Int) (wr : World) : Prop :=
  ∃ L s A k, Op room young w.heap.size hb L s A k w wr ∧ k ≤ bd ∧ Bnd room young most s A ∧ 0 ≤ most ∧ most ≤ room / 16

set_option maxRecDepth 100000 in
set_option maxHeartbeats 8000000 in
theorem pauses_law {room young slots tm : Int} {B n cap : Nat} {X : Option Addr} {w : World} (hA : ActsAt B w X n) (hB : B ≤ w.heap.size) (ht0 : 0 ≤ tm) (ht1 : tm ≤ 255) : Calls Try.prog 5 #[.int .i64 room, .int .i64 young, .int .i64 slots, .slice X n cap, .int .u8 tm] w (Yes w) := by
  have HA := Lib.hid hA
  clear hA
  go_enter Try.func5, Try.ntmps5
  go_wp2_with fail
  refine opened_any.mono ?_
  rintro e w1 (⟨rfl, hf⟩ | ⟨hb, L, s, A, rfl, h8, hO, hbig, hwo, hlv, hdb, hcp, hwd⟩)
  · have HF := Lib.hid hf
    clear hf
    go_wp2_with (go_at_call 10; refine (sanity_yes _).mono ?_; rintro e w2 ⟨rfl, hf⟩; have H2 := Lib.hid hf; clear hf)
    go_ret
    exact ⟨rfl, HF.out.trans H2.out fun _ h => h.elim⟩
  have hst : 256 ≤ room ∧ 16 ≤ young ∧ young ≤ room / 16 := by
    obtain ⟨G, φ, hi⟩ := hO.good.inv
    have e1 := hO.room
    have e2 := hO.young
    have := hi.room1
    have := hi.young1
    have := hi.young2
    rw [e1, e2] at *
    omega
  have hP : Pst room young hb w 0 0 w1 := ⟨L, s, A, 0, hO, Nat.le_refl _, ⟨by rw [hbig]; omega, by omega, hdb, by rw [hlv]; omega⟩, by omega, by omega⟩
  have HO := Lib.hid hO
  have HP := Lib.hid hP
  clear hO hbig hwo hlv hdb hcp hwd hP
  go_wp2_with fail
  refine (fits_any (HO.out.acts HA.out hB) (by have := HO.out.fr.size; omega)).mono ?_
  rintro e w2 ⟨⟨b, rfl, hn⟩, hf⟩
  have H2 := Lib.hid (HO.out.of_fr hf)
  have HP2 : Hid (Pst room young hb w 0 0 w2) := Lib.hid (by
    obtain ⟨L, s, A, k, h1, h2, h3, h4, h5⟩ := HP.out
    exact ⟨L, s, A, k, h1.of_fr hf, h2, h3, h4, h5⟩)
  clear hf HO HP
  have hsan : ∀ W, Fr (fun _ => False) w W → Calls Try.prog 10 #[] W (Yes w) := fun W hf => (sanity_yes W).mono fun _ _ h => ⟨h.1, hf.trans h.2 fun _ h => h.elim⟩
  have HS := Lib.hid hsan
  clear hsan
  cases b with
  | false =>
    clear hn
    go_wp2_with (go_at_call 10; refine (HS.out _ H2.out.fr).mono ?_; rintro e w3 ⟨rfl, hf⟩; have H3 := Lib.hid hf; clear hf)
    go_ret
    exact ⟨rfl, H3.out⟩
  | true =>
    clear hn
    by_cases h60 : 60 < n
    · go_wp2_with (go_at_call 10; refine (HS.out _ H2.out.fr).mono ?_; rintro e w3 ⟨rfl, hf⟩; have H3 := Lib.hid hf; clear hf)
      go_ret
      exact ⟨rfl, H3.out⟩
    have h60' : n ≤ 60 := by omega
    clear h60
    go_wp2
    go_loopw [12, 13] (fun m i wr => ∃ (ko : Nat) (most : Int), ko ≤ 40 ∧ m = .int .i64 most ∧ i = .int .i64 ko ∧ Pst room young hb w (ko * 60) most wr) (fun _ i _ => 41 - (intOf i).toNat)
    case atStart => exact ⟨0, 0, by omega, rfl, rfl, HP2.out⟩
    case round =>
      obtain ⟨ko, most, hko, rfl, rfl, hP⟩ := hrel
      obtain ⟨wo, rfl⟩ : ∃ wo : World, wo = wr := ⟨_, rfl⟩
      have HP := Lib.hid hP
      clear hP HP2 H2
      by_cases hout : (ko : Int) < tm % 41
      · go_wp2_with fail
        go_loopw [12, 14] (fun m i wr => ∃ (ki : Nat) (most : Int), ki ≤ n ∧ m = .int .i64 most ∧ i = .int .i64 ki ∧ Pst room young hb w (ko * 60 + ki) most wr) (fun _ i _ => n - (intOf i).toNat)
        case atStart => exact ⟨0, most, by omega, rfl, rfl, HP.out⟩
        case round =>
          obtain ⟨ki, mo, hki, rfl, rfl, hP⟩ := hrel
          have HQ := Lib.hid hP
          clear hP HP
          by_cases hlt : ki < n
          · obtain ⟨b, off, rfl, hbB, hi⟩ := HA.out (by omega)
            obtain ⟨kd, a1, a2, a3, a4, ha⟩ := hi ki hlt
            obtain ⟨L1, s1, A1, k1, hO1, hk1, hb1, hm0, hm1⟩ := HQ.out
            obtain ⟨q0, q1, c0, c1, c2, c3, c4, i1, i2, i3, i4⟩ := ha.of_block (hO1.fr.block b (by omega) id)
            have HO1 := Lib.hid hO1
            have HB1 := Lib.hid hb1
            have HK1 := Lib.hid hk1
            clear hi ha hO1 hb1 hk1
            by_cases hcol : kd % 15 = 12 ∨ kd % 15 = 14
            · rcases hcol with hcol | hcol
              · go_wp2_with fail
                go_roundw
                case rel => exact ⟨ki + 1, mo, by omega, rfl, by go_num, L1, s1, A1, k1, HO1.out.of_fr (fr_alloc1 _ _), by have := HK1.out; omega, HB1.out, hm0, hm1⟩
                case measure => simp [intOf]; omega
              · have h12 : (kd % 15 == 12) = false := by simp; omega
                go_wp2_with fail
                go_roundw
                case rel => exact ⟨ki + 1, mo, by omega, rfl, by go_num, L1, s1, A1, k1, HO1.out.of_fr (fr_alloc1 _ _), by have := HK1.out; omega, HB1.out, hm0, hm1⟩
                case measure => simp [intOf]; omega
            · have h12 : (kd % 15 == 12) = false := by simp; omega
              have h14 : (kd % 15 == 14) = false := by simp; omega
              have HCOL := Lib.hid (show kd % 15 ≠ 12 ∧ kd % 15 ≠ 14 by omega)
              by_cases hv : kd % 15 = 2 ∧ 0 ≤ a3 ∧ 0 ≤ a4 ∧ a3 ≤ 4000 ∧ a4 ≤ 4000
              · obtain ⟨v1, v2, v3, v4, v5⟩ := hv
                have HSZ0 : (((if kd % 15 = 2 then askedOf a3 a4 else 0 : Nat)) : Int) = 1 + a3 + a4 := by
                  rw [if_pos v1]
                  unfold askedOf
                  rw [if_pos ⟨v2, v3, v4, v5⟩]
                  omega
                by_cases hbg : room / 16 < 1 + a3 + a4
                · clear HSZ0 hcol
                  go_wp2_with fail
                  refine (HS.out _ (HO1.out.of_fr (fr_alloc1 _ _)).fr).mono ?_
                  rintro e w5 ⟨rfl, hf5⟩
                  have H5 := Lib.hid hf5
                  clear hf5
                  go_wp2
                  go_ret
                  exact ⟨rfl, H5.out⟩
                · have hbg' : 1 + a3 + a4 ≤ room / 16 := by omega
                  by_cases hmx : mo < 1 + a3 + a4
                  · have HSZ := Lib.hid (show (((if kd % 15 = 2 then askedOf a3 a4 else 0 : Nat)) : Int) ≤ 1 + a3 + a4 by omega)
                    clear HSZ0 hcol hbg
                    go_wp2_with fail
                    refine (do_any (HO1.out.of_fr (fr_alloc1 _ _)).rep HO1.out.good (by have := HK1.out; omega) q0).mono ?_
                    rintro e w3 ⟨n0, n1, n2, x, rfl, hd⟩
                    obtain ⟨L2, s2, A2, hO2, hR2⟩ := (HO1.out.of_fr (fr_alloc1 _ _)).did hd
                    have HO2 := Lib.hid hO2
                    have HR2 := Lib.hid hR2
                    clear hd hO2 hR2
                    obtain ⟨lv, elv⟩ : ∃ y, y = A2.live := ⟨_, rfl⟩
                    have hL := Live_ran HO2.out.rep HO2.out.good
                    rw [← elv] at hL
                    have ELV := Lib.hid elv
                    have HL := Lib.hid hL
                    clear hL elv
                    go_wp2_with fail
                    refine HL.out.mono ?_
                    rintro e w4 ⟨rfl, hlm⟩
                    obtain ⟨L3, s3, hO3, hR3⟩ := HO2.out.live hlm
                    have HO3 := Lib.hid hO3
                    have HR3 := Lib.hid hR3
                    clear hlm hO3 hR3 HL
                    by_cases hlv : (lv : Int) ≤ room / 4
                    · go_wp2_with fail
                      have hl4 : 4 * (A2.live : Int) ≤ room := by rw [← ELV.out]; omega
                      have hq : kd % 15 ≠ 12 ∧ kd % 15 ≠ 14 := HCOL.out
                      have hb2 : Bnd room young (1 + a3 + a4) s2 A2 := HB1.out.did HR2.out hq HO1.out.room HO1.out.young (by omega) HSZ.out hl4
                      have hb3 : Bnd room young (1 + a3 + a4) s3 A2 := hb2.did HR3.out trivial HO2.out.room HO2.out.young (Int.le_refl _) (by omega) hl4
                      have HB3 := Lib.hid hb3
                      have hbd := bounded_any HO3.out.rep HB3.out.worst (HB3.out.copied HO3.out.good (by omega)) ⟨by omega, by omega⟩ ⟨by omega, by omega⟩ ⟨by omega, by omega⟩ ⟨HO3.out.good.bounds.2.2.2.1, HO3.out.good.bounds.2.2.2.2.1⟩
                      clear hb2 hb3 hq hl4
                      refine hbd.mono ?_
                      rintro e w5 ⟨rfl, hf5⟩
                      have H5 := Lib.hid hf5
                      clear hf5 hbd
                      go_wp2_with fail
                      go_roundw
                      case rel => exact ⟨ki + 1, 1 + a3 + a4, by omega, rfl, by go_num, L3, s3, A2, k1 + 1, HO3.out.of_fr H5.out, by have := HK1.out; omega, HB3.out, by omega, by omega⟩
                      case measure => simp [intOf]; omega
                    · go_wp2_with fail
                      refine (HS.out _ HO3.out.fr).mono ?_
                      rintro e w5 ⟨rfl, hf5⟩
                      have H5 := Lib.hid hf5
                      clear hf5
                      go_wp2
                      go_ret
                      exact ⟨rfl, H5.out⟩
                  · have hmx' : 1 + a3 + a4 ≤ mo := by omega
                    have HSZ := Lib.hid (show (((if kd % 15 = 2 then askedOf a3 a4 else 0 : Nat)) : Int) ≤ mo by omega)
                    clear HSZ0 hcol hbg hmx
                    go_wp2_with fail
                    refine (do_any (HO1.out.of_fr (fr_alloc1 _ _)).rep HO1.out.good (by have := HK1.out; omega) q0).mono ?_
                    rintro e w3 ⟨n0, n1, n2, x, rfl, hd⟩
                    obtain ⟨L2, s2, A2, hO2, hR2⟩ := (HO1.out.of_fr (fr_alloc1 _ _)).did hd
                    have HO2 := Lib.hid hO2
                    have HR2 := Lib.hid hR2
                    clear hd hO2 hR2
                    obtain ⟨lv, elv⟩ : ∃ y, y = A2.live := ⟨_, rfl⟩
                    have hL := Live_ran HO2.out.rep HO2.out.good
                    rw [← elv] at hL
                    have ELV := Lib.hid elv
                    have HL := Lib.hid hL
                    clear hL elv
                    go_wp2_with fail
                    refine HL.out.mono ?_
                    rintro e w4 ⟨rfl, hlm⟩
                    obtain ⟨L3, s3, hO3, hR3⟩ := HO2.out.live hlm
                    have HO3 := Lib.hid hO3
                    have HR3 := Lib.hid hR3
                    clear hlm hO3 hR3 HL
                    by_cases hlv : (lv : Int) ≤ room / 4
                    · go_wp2_with fail
                      have hl4 : 4 * (A2.live : Int) ≤ room := by rw [← ELV.out]; omega
                      have hq : kd % 15 ≠ 12 ∧ kd % 15 ≠ 14 := HCOL.out
                      have hb2 : Bnd room young (mo) s2 A2 := HB1.out.did HR2.out hq HO1.out.room HO1.out.young (Int.le_refl _) HSZ.out hl4
                      have hb3 : Bnd room young (mo) s3 A2 := hb2.did HR3.out trivial HO2.out.room HO2.out.young (Int.le_refl _) (by omega) hl4
                      have HB3 := Lib.hid hb3
                      have hbd := bounded_any HO3.out.rep HB3.out.worst (HB3.out.copied HO3.out.good (by omega)) ⟨by omega, by omega⟩ ⟨by omega, by omega⟩ ⟨by omega, by omega⟩ ⟨HO3.out.good.bounds.2.2.2.1, HO3.out.good.bounds.2.2.2.2.1⟩
                      clear hb2 hb3 hq hl4
                      refine hbd.mono ?_
                      rintro e w5 ⟨rfl, hf5⟩
                      have H5 := Lib.hid hf5
                      clear hf5 hbd
                      go_wp2_with fail
                      go_roundw
                      case rel => exact ⟨ki + 1, mo, by omega, rfl, by go_num, L3, s3, A2, k1 + 1, HO3.out.of_fr H5.out, by have := HK1.out; omega, HB3.out, by omega, by omega⟩
                      case measure => simp [intOf]; omega
                    · go_wp2_with fail
                      refine (HS.out _ HO3.out.fr).mono ?_
                      rintro e w5 ⟨rfl, hf5⟩
                      have H5 := Lib.hid hf5
                      clear hf5
                      go_wp2
                      go_ret
                      exact ⟨rfl, H5.out⟩
              · have HSZ : Hid ((((if kd % 15 = 2 then askedOf a3 a4 else 0 : Nat)) : Int) ≤ mo) := Lib.hid (by
                  split
                  · unfold askedOf
                    rw [if_neg (by omega)]
                    omega
                  · omega)
                clear hcol
                have HV := Lib.hid hv
                clear hv
                go_wp2_with fail
                all_goals try (exfalso; have := HV.out; omega)
                all_goals
                  refine (do_any (HO1.out.of_fr (fr_alloc1 _ _)).rep HO1.out.good (by have := HK1.out; omega) q0).mono ?_
                  rintro e w3 ⟨n0, n1, n2, x, rfl, hd⟩
                  obtain ⟨L2, s2, A2, hO2, hR2⟩ := (HO1.out.of_fr (fr_alloc1 _ _)).did hd
                  have HO2 := Lib.hid hO2
                  have HR2 := Lib.hid hR2
                  clear hd hO2 hR2
                  obtain ⟨lv, elv⟩ : ∃ y, y = A2.live := ⟨_, rfl⟩
                  have hL := Live_ran HO2.out.rep HO2.out.good
                  rw [← elv] at hL
                  have ELV := Lib.hid elv
                  have HL := Lib.hid hL
                  clear hL elv
                  go_wp2_with fail
                  refine HL.out.mono ?_
                  rintro e w4 ⟨rfl, hlm⟩
                  obtain ⟨L3, s3, hO3, hR3⟩ := HO2.out.live hlm
                  have HO3 := Lib.hid hO3
                  have HR3 := Lib.hid hR3
                  clear hlm hO3 hR3 HL
                  by_cases hlv : (lv : Int) ≤ room / 4
                  · go_wp2_with fail
                    have hl4 : 4 * (A2.live : Int) ≤ room := by rw [← ELV.out]; omega
                    have hq : kd % 15 ≠ 12 ∧ kd % 15 ≠ 14 := HCOL.out
                    have hb2 : Bnd room young (mo) s2 A2 := HB1.out.did HR2.out hq HO1.out.room HO1.out.young (Int.le_refl _) HSZ.out hl4
                    have hb3 : Bnd room young (mo) s3 A2 := hb2.did HR3.out trivial HO2.out.room HO2.out.young (Int.le_refl _) (by omega) hl4
                    have HB3 := Lib.hid hb3
                    have hbd := bounded_any HO3.out.rep HB3.out.worst (HB3.out.copied HO3.out.good (by omega)) ⟨by omega, by omega⟩ ⟨by omega, by omega⟩ ⟨by omega, by omega⟩ ⟨HO3.out.good.bounds.2.2.2.1, HO3.out.good.bounds.2.2.2.2.1⟩
                    clear hb2 hb3 hq hl4
                    refine hbd.mono ?_
                    rintro e w5 ⟨rfl, hf5⟩
                    have H5 := Lib.hid hf5
                    clear hf5 hbd
                    go_wp2_with fail
                    go_roundw
                    case rel => exact ⟨ki + 1, mo, by omega, rfl, by go_num, L3, s3, A2, k1 + 1, HO3.out.of_fr H5.out, by have := HK1.out; omega, HB3.out, by omega, by omega⟩
                    case measure => simp [intOf]; omega
                  · go_wp2_with fail
                    refine (HS.out _ HO3.out.fr).mono ?_
                    rintro e w5 ⟨rfl, hf5⟩
                    have H5 := Lib.hid hf5
                    clear hf5
                    go_wp2
                    go_ret
                    exact ⟨rfl, H5.out⟩
          · go_wp2_with fail
            go_roundw
            case rel =>
              obtain ⟨L1, s1, A1, k1, hO1, hk1, hb1, hm0, hm1⟩ := HQ.out
              exact ⟨ko + 1, mo, by omega, rfl, by go_num, L1, s1, A1, k1, hO1, by omega, hb1, hm0, hm1⟩
            case measure => simp [intOf]; omega
      · go_wp2_with fail
        refine (HS.out _ (by obtain ⟨L1, s1, A1, k1, hO1, _⟩ := HP.out; exact hO1.fr)).mono ?_
        rintro e w3 ⟨rfl, hf⟩
        have H3 := Lib.hid hf
        clear hf
        go_wp2
        go_ret
        exact ⟨rfl, H3.out⟩
end Go.Proofs.Ythjokcjdphempaa

namespace Go.Proofs.Ythjokcjdphempaa
open Go.ChangeShapes Go.WideShapes Go.ChangeAt Go.RowKit Go.Joins

set_option maxRecDepth 100000 in
theorem pauses_lifted (os : Os) (started : os.Started) (H : Type) (enc : TypeId × Value → H) :
    ReturnsInHanded {} Try.checked os 5 .any (Rows.heapPausesSpec.pre6 enc Try.prog Try.f5 Rows.heapPausesRow.domain false) (Rows.heapPausesSpec.post enc Try.prog Try.f5 false true false false) := by
  refine returnsInHanded_of_change (C := Try.checked) own started (by kernel_rfl) Try.func5
    (ChangeSpec.witness6 (enc := enc) (C := Try.checked) false ⟨#[], #[.int .i64 0, .int .i64 0, .int .i64 0, .slice none 0 0, .int .u8 0], []⟩ 8 (by kernel_rfl) (by kernel_rfl) (by kernel_rfl) (by kernel_rfl)) ?_
  intro W base args ds gs before hval0 hW hcnd _
  have hval : ∀ (j : Nat) t v, Try.f5.params[j]? = some t → args[j]? = some v → Value.okWide Try.prog W .any base t v := hval0
  have hW' := hW
  obtain ⟨p, q, hA0, hV, rfl, hfz, hnd⟩ := hW
  have hA : DataW.TrodAll enc Try.prog W 0 (fun _ => true) true Try.f5.params.toList args.toList ds p := hA0
  rw [Try.params5] at hA hval
  obtain ⟨v0, vs0, d0, ds0, p0, q0, hargs, rfl, rfl, h0, r0⟩ := trodAll_cons hA
  obtain ⟨v1, vs1, d1, ds1, p1, q1, rfl, rfl, rfl, h1, r1⟩ := trodAll_cons r0
  obtain ⟨v2, vs2, d2, ds2, p2, q2, rfl, rfl, rfl, h2, r2⟩ := trodAll_cons r1
  obtain ⟨v3, vs3, d3, ds3, p3, q3, rfl, rfl, rfl, h3, r3⟩ := trodAll_cons r2
  obtain ⟨v4, vs4, d4, ds4, p4, q4, rfl, rfl, rfl, h4, r4⟩ := trodAll_cons r3
  obtain ⟨rfl, rfl, rfl⟩ := trodAll_nil r4
  obtain rfl : args = #[v0, v1, v2, v3, v4] := by cases args; simp_all
  obtain ⟨rfl, rfl⟩ := trodVars_none hV
  have lt0 : ∀ x ∈ p0, x.block < W.heap.size := by obtain ⟨m, hm⟩ := h0; exact DataW.trod_lt m _ _ _ hm
  have lt1 : ∀ x ∈ p1, x.block < W.heap.size := by obtain ⟨m, hm⟩ := h1; exact DataW.trod_lt m _ _ _ hm
  have lt2 : ∀ x ∈ p2, x.block < W.heap.size := by obtain ⟨m, hm⟩ := h2; exact DataW.trod_lt m _ _ _ hm
  have lt3 : ∀ x ∈ p3, x.block < W.heap.size := by obtain ⟨m, hm⟩ := h3; exact DataW.trod_lt m _ _ _ hm
  have lt4 : ∀ x ∈ p4, x.block < W.heap.size := by obtain ⟨m, hm⟩ := h4; exact DataW.trod_lt m _ _ _ hm
  obtain ⟨room, rfl⟩ := okWide_int Try.underlying3 (hval 0 3 v0 rfl rfl)
  obtain ⟨young, rfl⟩ := okWide_int Try.underlying3 (hval 1 3 v1 rfl rfl)
  obtain ⟨slots, rfl⟩ := okWide_int Try.underlying3 (hval 2 3 v2 rfl rfl)
  obtain ⟨X, n, cap, rfl, hX⟩ := open_acts (hval 3 22 v3 rfl rfl) h3
  obtain ⟨tm, rfl⟩ := okWide_int Try.underlying5 (hval 4 5 v4 rfl rfl)
  have htm : 0 ≤ tm ∧ tm ≤ 255 := by
    obtain ⟨m, hm⟩ := h4
    obtain ⟨k, e0, _, wk⟩ := DataW.trod_int Try.underlying5 hm
    simp [Value.cells] at e0
    subst e0
    have := bounds_u8 wk
    omega
  clear hA0 hval0 r0 r1 r2 r3 r4
  refine (pauses_law hX (Nat.le_refl _) htm.1 htm.2).mono fun e W' ⟨he, hfr⟩ => ?_
  have bel : Below W.heap.size W W' := ⟨hfr.os, hfr.tape, hfr.output, hfr.size, fun k hk => hfr.block k hk id⟩
  subst he
  exact ⟨_, rfl, _, _, _, [], _, [], hW', trodAll_mk1 (shut_bool Try.underlying4 _), (trodAll_cons_mk (Below.trod laidOut (by kernel_rfl) (of_decide_eq_true (by kernel_rfl)) h0 bel lt0) (trodAll_cons_mk (Below.trod laidOut (by kernel_rfl) (of_decide_eq_true (by kernel_rfl)) h1 bel lt1) (trodAll_cons_mk (Below.trod laidOut (by kernel_rfl) (of_decide_eq_true (by kernel_rfl)) h2 bel lt2) (trodAll_cons_mk (Below.trod laidOut (by kernel_rfl) (of_decide_eq_true (by kernel_rfl)) h3 bel lt3) (trodAll_cons_mk (Below.trod laidOut (by kernel_rfl) (of_decide_eq_true (by kernel_rfl)) h4 bel lt4) trodAll_mk0))))), rfl, bel.frame _, fun h => by cases h⟩

theorem pauses_over : Rows.heapPausesRow.holds Try.pinned (OpenSpec.ofChange Rows.heapPausesSpec) :=
  OpenClaim.holds_of_wide 5 Try.f5 rfl rfl rfl rfl rfl rfl rfl ⟨rfl, rfl, rfl, rfl, rfl⟩ rfl rfl rfl rfl rfl (by kernel_rfl) Try.func5 (by kernel_rfl)
    (of_decide_eq_true (by kernel_rfl)) (by unfold Func.isWrapper; rw [if_neg (of_decide_eq_false (by kernel_rfl))]; exact ⟨rfl, rfl⟩)
    (fun os started H enc _ => pauses_lifted os started H enc)

/-- The statement. -/
theorem heap_pauses : Rows.HeapPausesSaid := pauses_over
end Go.Proofs.Ythjokcjdphempaa

