/- HeapSteps holds: for every setup, number of slots, list of acts and list of units, the law of Step answers true, and its arguments read as before. No condition. -/
import Derived.Test.YthjokcjdphempaaDmp
namespace Go.Proofs.Ythjokcjdphempaa
open Go.RowKit Hp Go.Shelf

/-- The state of the first loop. -/
def Sst (room young : Int) (hb : Nat) (w : World) (k : Nat) (most : Int) (wr : World) : Prop :=
  ∃ L s A, Op room young w.heap.size hb L s A k w wr ∧ (s.big : Int) ≤ most ∧ 0 ≤ most ∧ most ≤ 8001

/-- The state of the second loop. -/
def Tst (room young : Int) (hb bs : Nat) (wd w : World) (A : AHeap) (k : Nat) (most : Int) (wr : World) : Prop :=
  ∃ L s, Op room young w.heap.size hb L s A k w wr ∧ (s.big : Int) ≤ most ∧ DKeep hb bs wd L wr

theorem Op.dump_c {room young : Int} {hb : Nat} {L : Lay} {s : HS} {A : AHeap} {k : Nat} {w wr : World} (h : Op room young w.heap.size hb L s A k w wr) : Calls Try.prog 13 #[.pointer (some ⟨hb, 0, none⟩)] wr fun e w' =>
    ∃ a1 k1 a2 k2, e = .returned (.agg #[.slice a1 A.slots.length k1, .slice a2 (dumpL A).length k2]) ∧ ∃ L' s', Op room young w.heap.size hb L' s' A k w w' ∧ Left hb L L' wr w' ∧ s'.big = s.big ∧ (∀ j, L'.foot hb j → j < wr.heap.size) ∧ DumpK A wr.heap.size w' a1 k1 a2 k2 := by
  refine (Dump_any h.rep h.good).mono ?_
  rintro e w' ⟨a1, k1, a2, k2, rfl, L', s', h1, h2, h3, h4, _, h6, h7⟩
  refine ⟨a1, k1, a2, k2, rfl, L', s', h.left h1 h2 h3 h4.room h4.young, h3, ?_, h6, h7⟩
  rcases h4.big with e | ⟨_, e⟩
  · exact e
  · rw [e]; omega

set_option maxRecDepth 100000 in
set_option maxHeartbeats 8000000 in
theorem steps_law {room young slots : Int} {B n cap m cap2 : Nat} {X Y : Option Addr} {w : World} (hA : ActsAt B w X n) (hY : NumsAt B w Y m) (hB : B ≤ w.heap.size) : Calls Try.prog 4 #[.int .i64 room, .int .i64 young, .int .i64 slots, .slice X n cap, .slice Y m cap2] w (Yes w) := by
  have HA := Lib.hid hA
  have HY := Lib.hid hY
  clear hA hY
  have hsan : ∀ W, Fr (fun _ => False) w W → Calls Try.prog 10 #[] W (Yes w) := fun W hf => (sanity_yes W).mono fun _ _ h => ⟨h.1, hf.trans h.2 fun _ h => h.elim⟩
  have HS := Lib.hid hsan
  clear hsan
  have fE : ∀ (v0 v1 v2 v3 : Value) w, (Instr.field 30 (.agg #[v0, v1, v2, v3]) 1).run Try.prog w = .ok v3 w := fun _ _ _ _ _ => by kernel_rfl
  have fC : ∀ (v0 v1 v2 v3 v4 v5 : Value) w, (Instr.field 46 (.agg #[v0, v1, v2, v3, v4, v5]) 2).run Try.prog w = .ok v2 w := fun _ _ _ _ _ _ _ => by kernel_rfl
  go_enter Try.func4, Try.ntmps4
  go_wp2_with fail
  refine opened_any.mono ?_
  rintro e w1 (⟨rfl, hf⟩ | ⟨hb, L, s, A, rfl, h8, hO, hbig, hwo, hlv, hdb, hcp, hwd⟩)
  · have HF := Lib.hid hf
    clear hf
    go_wp2_with (go_at_call 10; refine (HS.out _ HF.out).mono ?_; rintro e w2 ⟨rfl, hf⟩; have H2 := Lib.hid hf; clear hf)
    go_ret
    exact ⟨rfl, H2.out⟩
  have HO := Lib.hid hO
  have HBG := Lib.hid hbig
  clear hO hbig hwo hlv hdb hcp hwd
  go_wp2_with fail
  refine (fits_any (HO.out.acts HA.out hB) (by have := HO.out.fr.size; omega)).mono ?_
  rintro e w2 ⟨⟨b, rfl, hn⟩, hf⟩
  have H2 := Lib.hid (HO.out.of_fr hf)
  clear hf HO
  cases b with
  | false =>
    clear hn
    go_wp2_with (go_at_call 10; refine (HS.out _ H2.out.fr).mono ?_; rintro e w3 ⟨rfl, hf⟩; have H3 := Lib.hid hf; clear hf)
    go_ret
    exact ⟨rfl, H3.out⟩
  | true =>
    have h300 : n ≤ 300 := hn rfl
    clear hn
    by_cases h60 : 60 < m
    · go_wp2_with (go_at_call 10; refine (HS.out _ H2.out.fr).mono ?_; rintro e w3 ⟨rfl, hf⟩; have H3 := Lib.hid hf; clear hf)
      go_ret
      exact ⟨rfl, H3.out⟩
    have h60' : m ≤ 60 := by omega
    clear h60
    have hst : Sst room young hb w 0 0 w2 := ⟨L, s, A, H2.out, by rw [HBG.out]; omega, by omega, by omega⟩
    have HST := Lib.hid hst
    clear hst H2 HBG
    go_wp2
    go_loopw [12, 13] (fun q i wr => ∃ (k : Nat) (most : Int), k ≤ n ∧ q = .int .i64 most ∧ i = .int .i64 k ∧ Sst room young hb w k most wr) (fun _ i _ => n - (intOf i).toNat)
    case atStart => exact ⟨0, 0, Nat.zero_le _, rfl, rfl, HST.out⟩
    case round =>
      obtain ⟨k, mo, hk, rfl, rfl, L1, s1, A1, hO, hb1, hm0, hm1⟩ := hrel
      have HO := Lib.hid hO
      have HB1 := Lib.hid hb1
      clear hO hb1 HST
      by_cases hlt : k < n
      · obtain ⟨b, off, rfl, hbB, hi⟩ := HA.out (by omega)
        obtain ⟨kd, a1, a2, a3, a4, ha⟩ := hi k hlt
        obtain ⟨q0, q1, c0, c1, c2, c3, c4, i1, i2, i3, i4⟩ := ha.of_block (HO.out.fr.block b (by omega) id)
        clear hi ha i1 i2 i3 i4
        go_wp2_with fail
        have hO' := HO.out.of_fr (fr_alloc1 wr (.cells #[.int .u8 kd, .int .i64 a1, .int .i64 a2, .int .i64 a3, .int .i64 a4] 33))
        have hbx := World.alloc_heap_new wr (.cells #[.int .u8 kd, .int .i64 a1, .int .i64 a2, .int .i64 a3, .int .i64 a4] 33)
        have hnf : ¬ L1.foot hb wr.heap.size := fun h => by have := HO.out.rep.lt h; omega
        refine (do_val hO'.rep hO'.good (by omega) q0).mono ?_
        rintro e w3 ⟨n0, n1, n2, x, rfl, hd, hval⟩
        obtain ⟨L2, s2, A2, hO2, hR⟩ := hO'.did hd
        have hbx3 : w3.heap[wr.heap.size]? = some (.cells #[.int .u8 kd, .int .i64 a1, .int .i64 a2, .int .i64 a3, .int .i64 a4] 33 (0, 0)) := did_block hd hbx hnf
        have g0 : w3.cell? ⟨wr.heap.size, 0, none⟩ = some (.int .u8 kd) := by simp only [World.cell?, hbx3]; rfl
        have g3 : w3.cell? ⟨wr.heap.size, 3, none⟩ = some (.int .i64 a3) := by simp only [World.cell?, hbx3]; rfl
        have g4 : w3.cell? ⟨wr.heap.size, 4, none⟩ = some (.int .i64 a4) := by simp only [World.cell?, hbx3]; rfl
        have HO2 := Lib.hid hO2
        have HR := Lib.hid hR
        have HV := Lib.hid hval
        clear hO' hd hO2 hR hval hbx hbx3 hnf c0 c1 c2 c3 c4
        by_cases hx : x = 0
        · subst hx
          by_cases hk2 : kd % 15 = 2
          · obtain ⟨v1, v2, v3, v4⟩ := HV.out hk2 rfl
            have hsz : (((if kd % 15 = 2 then askedOf a3 a4 else 0 : Nat)) : Int) = 1 + a3 + a4 := by
              rw [if_pos hk2]
              unfold askedOf
              rw [if_pos ⟨v1, v3, v2, v4⟩]
              omega
            by_cases hmx : mo < 1 + a3 + a4
            · have HN : Hid (Sst room young hb w (k + 1) (1 + a3 + a4) w3) := Lib.hid ⟨L2, s2, A2, HO2.out, by
                have := HB1.out
                rcases HR.out.big with e | ⟨_, e⟩ <;> rw [e] <;> omega, by omega, by omega⟩
              clear HO2 HR HV HO HB1 hsz
              go_wp2_with fail
              go_roundw
              case rel => exact ⟨k + 1, 1 + a3 + a4, by omega, rfl, by go_num, HN.out⟩
              case measure => simp [intOf]; omega
            · have hmx' : 1 + a3 + a4 ≤ mo := by omega
              have HN : Hid (Sst room young hb w (k + 1) mo w3) := Lib.hid ⟨L2, s2, A2, HO2.out, by
                have := HB1.out
                rcases HR.out.big with e | ⟨_, e⟩ <;> rw [e] <;> omega, by omega, by omega⟩
              clear HO2 HR HV HO HB1 hsz hmx
              go_wp2_with fail
              go_roundw
              case rel => exact ⟨k + 1, mo, by omega, rfl, by go_num, HN.out⟩
              case measure => simp [intOf]; omega
          · have hk2' : (kd % 15 == 2) = false := by simp; omega
            have HN : Hid (Sst room young hb w (k + 1) mo w3) := Lib.hid ⟨L2, s2, A2, HO2.out, by
              have := HB1.out
              rcases HR.out.big with e | ⟨_, e⟩
              · rw [e]; omega
              · rw [e, if_neg hk2]; omega, by omega, by omega⟩
            clear HO2 HR HV HO HB1
            go_wp2_with fail
            go_roundw
            case rel => exact ⟨k + 1, mo, by omega, rfl, by go_num, HN.out⟩
            case measure => simp [intOf]; omega
        · have hx' : (x == 0) = false := by simp; omega
          have HN : Hid (Sst room young hb w (k + 1) mo w3) := Lib.hid ⟨L2, s2, A2, HO2.out, by
            have := HB1.out
            rcases HR.out.big with e | ⟨e, _⟩
            · rw [e]; omega
            · exact absurd e hx, by omega, by omega⟩
          clear HO2 HR HV HO HB1
          go_wp2_with fail
          go_roundw
          case rel => exact ⟨k + 1, mo, by omega, rfl, by go_num, HN.out⟩
          case measure => simp [intOf]; omega
      · clear fE
        go_wp2_with fail
        refine HO.out.dump_c.mono ?_
        rintro e w3 ⟨d1, k1, d2, k2, rfl, L2, s2, hO2, hlf, hbg, hft, hdk⟩
        have hk3 : k ≤ 300 := by omega
        have hls : A1.slots.length ≤ 1000000 := by have := hO2.good.nsl; omega
        have hlo : (dumpL A1).length ≤ 1000000 := by
          obtain ⟨G, φ, hi⟩ := hO2.good.inv
          have h1 := hO2.good.objs
          have h2 := outAt_length hi.rep.wf A1.objs.length
          simp only [dumpL, List.length_map]
          unfold AHeap.search
          omega
        obtain ⟨ns, ens⟩ : ∃ x, x = A1.slots.length := ⟨_, rfl⟩
        obtain ⟨no, eno⟩ : ∃ x, x = (dumpL A1).length := ⟨_, rfl⟩
        obtain ⟨bs, ebs⟩ : ∃ x, x = wr.heap.size := ⟨_, rfl⟩
        obtain ⟨wd, ewd⟩ : ∃ x, x = w3.alloc (.cells #[.slice d1 ns k1, .slice d2 no k2] 38) := ⟨_, rfl⟩
        have hs3 : bs ≤ w3.heap.size := by have := hlf.fr.size; omega
        have hbox : wd.heap[w3.heap.size]? = some (.cells #[.slice d1 ns k1, .slice d2 no k2] 38 (0, 0)) := by rw [ewd]; exact World.alloc_heap_new w3 _
        have hszd : wd.heap.size = w3.heap.size + 1 := by rw [ewd]; simp
        have hOd : Op room young w.heap.size hb L2 s2 A1 k w wd := by rw [ewd]; exact hO2.of_fr (fr_alloc1 _ _)
        have hT : Tst room young hb bs wd w A1 (k + 0) mo wd := ⟨L2, s2, hOd, by rw [hbg]; exact HB1.out, ⟨fun j hj => .inl (by rw [ebs]; exact hft j hj), fun _ _ _ => rfl, Nat.le_refl _⟩⟩
        have hdk' : DumpK A1 bs wd d1 k1 d2 k2 := by rw [ewd, ebs]; exact hdk.keep (by simp) fun j _ hj => Below.heap_alloc _ _ _ hj
        have HT := Lib.hid hT
        have HD := Lib.hid (And.intro hdk' (And.intro hbox (And.intro hszd hs3)))
        have HE := Lib.hid (And.intro ens (And.intro eno (And.intro hls hlo)))
        rw [← ens, ← eno]
        have HWD := Lib.hid ewd
        clear hO2 hlf hbg hft hdk HO HB1 ens eno ebs ewd hs3 hbox hszd hOd hT hdk' hls hlo hlt
        go_wp2_with fail
        rw [← HWD.out]
        clear HWD
        go_loopw [16] (fun i wr => ∃ j : Nat, j ≤ m ∧ i = .int .i64 j ∧ Tst room young hb bs wd w A1 (k + j) mo wr) (fun i _ => m - (intOf i).toNat)
        case atStart => exact ⟨0, Nat.zero_le _, rfl, HT.out⟩
        case round =>
          obtain ⟨j, hj, rfl, L4, s4, hO4, hb4, hK4⟩ := hrel
          have HO4 := Lib.hid hO4
          have HB4 := Lib.hid hb4
          have HK4 := Lib.hid hK4
          clear hO4 hb4 hK4 HT
          by_cases hlj : j < m
          · obtain ⟨b, off, rfl, hbB, hi⟩ := HY.out (by omega)
            obtain ⟨z, hz, z1, z2⟩ := hi j hlj
            have bd4 := HO4.out.good.bounds
            obtain ⟨cp, ecp⟩ : ∃ x, x = s4.copied := ⟨_, rfl⟩
            have hc0 : 0 ≤ cp ∧ cp ≤ 40000000000 := by rw [ecp]; exact ⟨bd4.2.1, bd4.2.2.1⟩
            have hst := Stat_any HO4.out.rep
            rw [← ecp] at hst
            have HST4 := Lib.hid hst
            have HCP := Lib.hid ecp
            clear hi bd4 ecp hst
            go_wp2_with fail
            refine HST4.out.mono ?_
            rintro e w5 ⟨rfl, hf5⟩
            have HO5 := Lib.hid (HO4.out.of_fr hf5)
            have HK5 := Lib.hid (HK4.out.of_fr hf5)
            have hz5 : w5.cell? ⟨b, off + j, none⟩ = some (.int .i64 z) := (cell_of_heap (HO5.out.fr.block b (by omega) id)).trans hz
            clear hf5 HO4 HK4 HST4
            go_wp2_with fail
            refine (Step_any HO5.out.rep HO5.out.good (by omega)).mono ?_
            rintro e w6 ⟨x, rfl, L6, s6, r1, r2, r3, r4, r5, r6⟩
            have HO6 := Lib.hid (HO5.out.left r1 r2 r3 r4.room r4.young)
            have HK6 := Lib.hid (HK5.out.left r3)
            have hz6 : w6.cell? ⟨b, off + j, none⟩ = some (.int .i64 z) := (cell_of_heap (HO6.out.fr.block b (by omega) id)).trans hz
            have hbm := HB4.out
            have bd6 := r2.bounds
            obtain ⟨cq, ecq⟩ : ∃ x, x = s6.copied := ⟨_, rfl⟩
            have hc6 : 0 ≤ cq ∧ cq ≤ 40000000000 := by rw [ecq]; exact ⟨bd6.2.1, bd6.2.2.1⟩
            have hst := Stat_any r1
            rw [← ecq] at hst
            have HST6 := Lib.hid hst
            have hb6 : (s6.big : Int) ≤ mo := by rw [r5]; exact hbm
            have HB6 := Lib.hid hb6
            have hr6 : (z < 0 ∧ x = 1 ∧ cq = cp) ∨ (0 ≤ z ∧ x = 0 ∧ cp ≤ cq ∧ cq - cp ≤ z + mo) := by
              rw [ecq, HCP.out]
              rcases r6 with ⟨q1, q2, q3⟩ | ⟨q1, q2, q3, q4⟩
              · exact .inl ⟨q1, q2, q3⟩
              · exact .inr ⟨q1, q2, q3, by omega⟩
            clear r1 r2 r3 r4 r5 r6 bd6 ecq hst hb6 hbm HO5 HK5 HCP HB4 hz5
            rcases hr6 with ⟨hz0, rfl, rfl⟩ | ⟨hz0, rfl, hle, hmo⟩
            · go_wp2_with fail
              refine HST6.out.mono ?_
              rintro e w7 ⟨rfl, hf7⟩
              have HO7 := Lib.hid (HO6.out.of_fr hf7)
              have HK7 := Lib.hid (HK6.out.of_fr hf7)
              have hz7 : w7.cell? ⟨b, off + j, none⟩ = some (.int .i64 z) := (cell_of_heap (HO7.out.fr.block b (by omega) id)).trans hz
              clear hf7 HO6 HK6 HST6 hz6
              go_wp2_with fail
              go_roundw
              case rel => exact ⟨j + 1, by omega, by go_num, L6, s6, HO7.out, HB6.out, HK7.out⟩
              case measure => simp [intOf]; omega
            · go_wp2_with fail
              refine HST6.out.mono ?_
              rintro e w7 ⟨rfl, hf7⟩
              have HO7 := Lib.hid (HO6.out.of_fr hf7)
              have HK7 := Lib.hid (HK6.out.of_fr hf7)
              have hz7 : w7.cell? ⟨b, off + j, none⟩ = some (.int .i64 z) := (cell_of_heap (HO7.out.fr.block b (by omega) id)).trans hz
              have e1 : cq - cp - mo ≤ z := by omega
              have e2 : 0 ≤ cq - cp := by omega
              clear hf7 HO6 HK6 HST6 hz6
              go_wp2_with fail
              go_roundw
              case rel => exact ⟨j + 1, by omega, by go_num, L6, s6, HO7.out, HB6.out, HK7.out⟩
              case measure => simp [intOf]; omega
          · have hbx : wr.heap[w3.heap.size]? = some (.cells #[.slice d1 ns k1, .slice d2 no k2] 38 (0, 0)) := by
              have h1 := HD.out.2.2.1
              rw [HK4.out.blk _ HD.out.2.2.2 (by omega)]
              exact HD.out.2.1
            have x0 : wr.cell? ⟨w3.heap.size, 0, none⟩ = some (.slice d1 ns k1) := by simp only [World.cell?, hbx]; rfl
            have x1 : wr.cell? ⟨w3.heap.size, 1, none⟩ = some (.slice d2 no k2) := by simp only [World.cell?, hbx]; rfl
            have HBX := Lib.hid hbx
            have hlf : ∀ L' : Lay, (∀ j, L'.foot hb j → j < bs ∨ wd.heap.size ≤ j) → ¬ L'.foot hb w3.heap.size := fun L' h hf => by
              have h1 := HD.out.2.2.1
              have h2 := HD.out.2.2.2
              have := h _ hf
              omega
            have HLF := Lib.hid hlf
            clear hbx hlf fC
            go_wp2_with fail
            go_region_held3 (fun W => W.cell? ⟨w3.heap.size, 0, none⟩ = some (.slice d1 ns k1) ∧ W.cell? ⟨w3.heap.size, 1, none⟩ = some (.slice d2 no k2)) (go_keep) (first | (go_at_call 10; refine (sanity_yes _).mono ?_; rintro e w5 ⟨rfl, hf5⟩; have hf6 := ((Fr.refl (fun _ => False) wr).drewN 1).trans hf5 (fun _ h => h.elim); have HO5 := Lib.hid (HO4.out.of_fr hf6); have HK5 := Lib.hid (HK4.out.of_fr hf6); have HX5 := Lib.hid (box_keep HBX.out hf6); (have y0 : w5.cell? ⟨w3.heap.size, 0, none⟩ = some (.slice d1 ns k1) := by simp only [World.cell?, HX5.out]; rfl); (have y1 : w5.cell? ⟨w3.heap.size, 1, none⟩ = some (.slice d2 no k2) := by simp only [World.cell?, HX5.out]; rfl); clear hf5 hf6) | (go_at_call 13; have q := HO5.out.dump_c; rw [← HE.out.1, ← HE.out.2.1] at q; refine q.mono ?_; rintro e w6 ⟨b1, l1, b2, l2, rfl, L6, s6, hO6, hl6, _, _, hdk6⟩; have HO6 := Lib.hid hO6; have HK6 := Lib.hid (HK5.out.left hl6); have HD6 := Lib.hid hdk6; (have hx6 : w6.heap[w3.heap.size]? = some (.cells #[.slice d1 ns k1, .slice d2 no k2] 38 (0, 0)) := by rw [hl6.fr.block _ (Array.getElem?_eq_some_iff.1 HX5.out).1 (HLF.out _ HK5.out.foot)]; exact HX5.out); (have y0 : w6.cell? ⟨w3.heap.size, 0, none⟩ = some (.slice d1 ns k1) := by simp only [World.cell?, hx6]; rfl); (have y1 : w6.cell? ⟨w3.heap.size, 1, none⟩ = some (.slice d2 no k2) := by simp only [World.cell?, hx6]; rfl); have HX6 := Lib.hid hx6; clear hO6 hl6 hdk6 hx6 q) | (go_at_call 16; have q := Same_eq (w := w6) (xs := A1.slots.map (numOf A1)) (n := A1.slots.length) (O := dumpL A1) (by simp) (HD6.out.slots w6 fun _ _ _ => rfl) (HD.out.1.slots w6 HK6.out.blk) HE.out.2.2.1 HE.out.2.2.2 (HD6.out.objs w6 fun _ _ _ => rfl) (HD.out.1.objs w6 HK6.out.blk); rw [← HE.out.1, ← HE.out.2.1] at q; refine q.mono ?_; rintro e w7 ⟨rfl, hf7⟩; have HO7 := Lib.hid (HO6.out.of_fr hf7); have HX7 := Lib.hid (box_keep HX6.out hf7); (have y0 : w7.cell? ⟨w3.heap.size, 0, none⟩ = some (.slice d1 ns k1) := by simp only [World.cell?, HX7.out]; rfl); (have y1 : w7.cell? ⟨w3.heap.size, 1, none⟩ = some (.slice d2 no k2) := by simp only [World.cell?, HX7.out]; rfl); clear hf7 q))
            go_wp2
            go_ret
            exact ⟨rfl, HO7.out.fr⟩
end Go.Proofs.Ythjokcjdphempaa

namespace Go.Proofs.Ythjokcjdphempaa
open Go.ChangeShapes Go.WideShapes Go.ChangeAt Go.RowKit Go.Joins

set_option maxRecDepth 100000 in
theorem steps_lifted (os : Os) (started : os.Started) (H : Type) (enc : TypeId × Value → H) :
    ReturnsInHanded {} Try.checked os 4 .any (Rows.heapStepsSpec.pre6 enc Try.prog Try.f4 Rows.heapStepsRow.domain false) (Rows.heapStepsSpec.post enc Try.prog Try.f4 false true false false) := by
  refine returnsInHanded_of_change (C := Try.checked) own started (by kernel_rfl) Try.func4
    (ChangeSpec.witness6 (enc := enc) (C := Try.checked) false ⟨#[], #[.int .i64 0, .int .i64 0, .int .i64 0, .slice none 0 0, .slice none 0 0], []⟩ 8 (by kernel_rfl) (by kernel_rfl) (by kernel_rfl) (by kernel_rfl)) ?_
  intro W base args ds gs before hval0 hW hcnd _
  have hval : ∀ (j : Nat) t v, Try.f4.params[j]? = some t → args[j]? = some v → Value.okWide Try.prog W .any base t v := hval0
  have hW' := hW
  obtain ⟨p, q, hA0, hV, rfl, hfz, hnd⟩ := hW
  have hA : DataW.TrodAll enc Try.prog W 0 (fun _ => true) true Try.f4.params.toList args.toList ds p := hA0
  rw [Try.params4] at hA hval
  obtain ⟨v0, vs0, d0, ds0, p0, q0, hargs, rfl, rfl, h0, r0⟩ := trodAll_cons hA
  obtain ⟨v1, vs1, d1, ds1, p1, q1, rfl, rfl, rfl, h1, r1⟩ := trodAll_cons r0
  obtain ⟨v2, vs2, d2, ds2, p2, q2, rfl, rfl, rfl, h2, r2⟩ := trodAll_cons r1
  obtain ⟨v3, vs3, d3, ds3, p3, q3, rfl, rfl, rfl, h3, r3⟩ := trodAll_cons r2
  obtain ⟨v4, vs4, d4, ds4, p4, q4, rfl, rfl, rfl, h4, r4⟩ := trodAll_cons r3
  obtain ⟨rfl, rfl, rfl⟩ := trodAll_nil r4
  obtain rfl : args = #[v0, v1, v2, v3, v4] := by cases args; simp_all
  obtain ⟨rfl, rfl⟩ := trodVars_none hV
  have lt0 : ∀ x ∈ p0, x.block < W.heap.size := by obtain ⟨m, hm⟩ := h0; exact DataW.trod_lt m _ _ _ hm
  have lt1 : ∀ x ∈ p1, x.block < W.heap.size := by obtain ⟨m, hm⟩ := h1; exact DataW.trod_lt m _ _ _ hm
  have lt2 : ∀ x ∈ p2, x.block < W.heap.size := by obtain ⟨m, hm⟩ := h2; exact DataW.trod_lt m _ _ _ hm
  have lt3 : ∀ x ∈ p3, x.block < W.heap.size := by obtain ⟨m, hm⟩ := h3; exact DataW.trod_lt m _ _ _ hm
  have lt4 : ∀ x ∈ p4, x.block < W.heap.size := by obtain ⟨m, hm⟩ := h4; exact DataW.trod_lt m _ _ _ hm
  obtain ⟨room, rfl⟩ := okWide_int Try.underlying3 (hval 0 3 v0 rfl rfl)
  obtain ⟨young, rfl⟩ := okWide_int Try.underlying3 (hval 1 3 v1 rfl rfl)
  obtain ⟨slots, rfl⟩ := okWide_int Try.underlying3 (hval 2 3 v2 rfl rfl)
  obtain ⟨X, n, cap, rfl, hX⟩ := open_acts (hval 3 22 v3 rfl rfl) h3
  obtain ⟨Y, m, cap2, rfl, hY⟩ := open_nums (hval 4 35 v4 rfl rfl) h4
  clear hA0 hval0 r0 r1 r2 r3 r4
  refine (steps_law hX hY (Nat.le_refl _)).mono fun e W' ⟨he, hfr⟩ => ?_
  have bel : Below W.heap.size W W' := ⟨hfr.os, hfr.tape, hfr.output, hfr.size, fun k hk => hfr.block k hk id⟩
  subst he
  exact ⟨_, rfl, _, _, _, [], _, [], hW', trodAll_mk1 (shut_bool Try.underlying4 _), (trodAll_cons_mk (Below.trod laidOut (by kernel_rfl) (of_decide_eq_true (by kernel_rfl)) h0 bel lt0) (trodAll_cons_mk (Below.trod laidOut (by kernel_rfl) (of_decide_eq_true (by kernel_rfl)) h1 bel lt1) (trodAll_cons_mk (Below.trod laidOut (by kernel_rfl) (of_decide_eq_true (by kernel_rfl)) h2 bel lt2) (trodAll_cons_mk (Below.trod laidOut (by kernel_rfl) (of_decide_eq_true (by kernel_rfl)) h3 bel lt3) (trodAll_cons_mk (Below.trod laidOut (by kernel_rfl) (of_decide_eq_true (by kernel_rfl)) h4 bel lt4) trodAll_mk0))))), rfl, bel.frame _, fun h => by cases h⟩

theorem steps_over : Rows.heapStepsRow.holds Try.pinned (OpenSpec.ofChange Rows.heapStepsSpec) :=
  OpenClaim.holds_of_wide 4 Try.f4 rfl rfl rfl rfl rfl rfl rfl ⟨rfl, rfl, rfl, rfl, rfl⟩ rfl rfl rfl rfl rfl (by kernel_rfl) Try.func4 (by kernel_rfl)
    (of_decide_eq_true (by kernel_rfl)) (by unfold Func.isWrapper; rw [if_neg (of_decide_eq_false (by kernel_rfl))]; exact ⟨rfl, rfl⟩)
    (fun os started H enc _ => steps_lifted os started H enc)

/-- The statement. -/
theorem heap_steps : Rows.HeapStepsSaid := steps_over
end Go.Proofs.Ythjokcjdphempaa

