/- HeapFull holds: for every setup, number of slots, list of acts and object, the law of a full heap answers true, and its arguments read as before. No condition. -/
import Derived.Test.YthjokcjdphempaaDmp
namespace Go.Proofs.Ythjokcjdphempaa
open Go.RowKit Hp Go.Shelf

section
variable {room young : Int} {hb : Nat} {L : Lay} {s : HS} {A : AHeap} {k : Nat} {w wr : World}

theorem Op.dumps (h : Op room young w.heap.size hb L s A k w wr) : Calls Try.prog 13 #[.pointer (some ⟨hb, 0, none⟩)] wr fun e w' =>
    ∃ a1 k1 a2 k2, e = .returned (.agg #[.slice a1 A.slots.length k1, .slice a2 (dumpL A).length k2]) ∧ ∃ L' s', Op room young w.heap.size hb L' s' A k w w' ∧ Left hb L L' wr w' ∧ (∀ j, L'.foot hb j → j < wr.heap.size) ∧ DumpK A wr.heap.size w' a1 k1 a2 k2 := by
  refine (Dump_any h.rep h.good).mono ?_
  rintro e w' ⟨a1, k1, a2, k2, rfl, L', s', h1, h2, h3, h4, _, h6, h7⟩
  exact ⟨a1, k1, a2, k2, rfl, L', s', h.left h1 h2 h3 h4.room h4.young, h3, h6, h7⟩

theorem Op.lives (h : Op room young w.heap.size hb L s A k w wr) : Calls Try.prog 12 #[.pointer (some ⟨hb, 0, none⟩)] wr fun e w' => e = .returned (.int .i64 A.live) ∧ ∃ L' s', Op room young w.heap.size hb L' s' A k w w' ∧ Left hb L L' wr w' := by
  refine (Live_ran h.rep h.good).mono ?_
  rintro e w' ⟨rfl, L', s', h1, h2, h3, h4⟩
  exact ⟨rfl, L', s', h.left h1 h2 h3 h4.room h4.young, h3⟩

/-- Make in no slot. -/
theorem Op.make_arg (h : Op room young w.heap.size hb L s A k w wr) {to tag refs raws : Int} (hto : to < 0 ∨ (s.slots.length : Int) ≤ to) :
    Calls Try.prog 14 #[.pointer (some ⟨hb, 0, none⟩), .int .i64 to, .int .i64 tag, .int .i64 refs, .int .i64 raws] wr fun e w' => e = .returned (.int .i64 1) ∧ ∃ L' s', Op room young w.heap.size hb L' s' A k w w' ∧ Left hb L L' wr w' ∧ s'.slots.length = s.slots.length := by
  have hr := h.rep
  have hG := h.good
  obtain ⟨b1, b2, b3, b4, b5, b6⟩ := hG.bounds
  have hsl := hG.sl
  refine (Make_w (R := fun x w' => x = 1 ∧ ∃ L' s', HRep w' hb L' s' ∧ Good s' A k ∧ Left hb L L' wr w' ∧ s'.room = s.room ∧ s'.young = s.young ∧ s'.slots.length = s.slots.length) ((meth0 (os := [.cells #[.pointer (some ⟨hb, 0, none⟩)] 23, .cells #[.int .i64 to] 3, .cells #[.int .i64 tag] 3, .cells #[.int .i64 refs] 3, .cells #[.int .i64 raws] 3]) hr hG (enters_of Try.func49 (by kernel_rfl) rfl)
    (R := fun x s1 => x = 1 ∧ s1 = s) ?_).mono ?_)).mono ?_
  · intro Wc hf hrc
    have x0 := box_at hf 0 rfl
    have x1 := box_at hf 1 rfl
    have hin : inSlots s [to] = false := by
      cases hc : inSlots s [to] with
      | false => rfl
      | true => have := in_slots1.1 hc; omega
    refine (make_no1 hrc (by omega) (cell_of_box x0).1 (cell_of_box x1).1 hin).mono ?_
    rintro e W1 ⟨rfl, rfl⟩
    exact ⟨L, s, some 1, .inr ⟨1, rfl, rfl⟩, hrc.of_fr (fr_alloc1 _ _) (fun _ _ h => h), ⟨(fr_alloc1 _ _).mono fun _ h => h.elim, fun _ h => .inl h⟩, ⟨Int.le_refl _, by omega⟩, rfl, rfl⟩
  · rintro e w' ⟨x, rfl, L1, s1, h1, h2, rfl, rfl⟩
    exact ⟨1, rfl, rfl, L1, _, h1, hG.worst _, h2, rfl, rfl, rfl⟩
  · rintro e w' ⟨x, rfl, rfl, L', s', h1, h2, h3, h4, h5, h6⟩
    exact ⟨rfl, L', s', h.left h1 h2 h3 h4 h5, h3, h6⟩

/-- Make in a slot. -/
theorem Op.make_c (h : Op room young w.heap.size hb L s A k w wr) (hk : k + 1 ≤ 100000) {to tag refs raws : Nat} (hto : to < A.slots.length) (ht : tag < 65536) (hrf : refs ≤ 4000) (hrw : raws ≤ 4000) :
    Calls Try.prog 14 #[.pointer (some ⟨hb, 0, none⟩), .int .i64 to, .int .i64 tag, .int .i64 refs, .int .i64 raws] wr fun e w' =>
      ((A.live : Int) + (1 + refs + raws : Nat) ≤ room ∧ e = .returned (.int .i64 0) ∧ ∃ L' s', Op room young w.heap.size hb L' s' (A.make to tag refs raws) (k + 1) w w' ∧ Left hb L L' wr w') ∨
      (room < (A.live : Int) + (1 + refs + raws : Nat) ∧ e = .returned (.int .i64 11) ∧ ∃ L' s', Op room young w.heap.size hb L' s' A k w w' ∧ Left hb L L' wr w') := by
  refine (Make_any h.rep h.good hk hto ht hrf hrw).mono ?_
  rw [h.room]
  rintro e w' (⟨h1, h2, L', s', q1, q2, q3, q4, q5⟩ | ⟨h1, h2, L', s', q1, q2, q3, q4, q5⟩)
  · exact .inl ⟨h1, h2, L', s', h.left q1 q2 q3 q4 q5, q3⟩
  · exact .inr ⟨h1, h2, L', s', h.left q1 q2 q3 q4 q5, q3⟩

theorem Op.sizes (h : Op room young w.heap.size hb L s A k w wr) : A.slots.length ≤ 4096 ∧ (dumpL A).length ≤ 1000000 ∧ s.slots.length = A.slots.length ∧ (A.live : Int) ≤ room ∧ 256 ≤ room ∧ room ≤ 65536 := by
  obtain ⟨G, φ, hi⟩ := h.good.inv
  have h1 := h.good.objs
  have h2 := outAt_length hi.rep.wf A.objs.length
  have h3 := h.good.kb
  have h4 := hi.live
  have h5 := hi.room1
  have h6 := hi.room2
  rw [h.room] at h4 h5 h6
  refine ⟨h.good.nsl, ?_, h.good.bounds.2.2.2.2.2, h4, h5, h6⟩
  simp only [dumpL, List.length_map]
  unfold AHeap.search
  omega
end

/-- The state of the loop. -/
def Fst (room young : Int) (hb : Nat) (w : World) (k : Nat) (wr : World) : Prop := ∃ L s A, Op room young w.heap.size hb L s A k w wr

set_option maxRecDepth 100000 in
set_option maxHeartbeats 8000000 in
theorem full_law {room young slots to refs raws : Int} {B n cap : Nat} {X : Option Addr} {w : World} (hA : ActsAt B w X n) (hB : B ≤ w.heap.size) : Calls Try.prog 3 #[.int .i64 room, .int .i64 young, .int .i64 slots, .slice X n cap, .int .i64 to, .int .i64 refs, .int .i64 raws] w (Yes w) := by
  have HA := Lib.hid hA
  clear hA
  have hsan : ∀ W, Fr (fun _ => False) w W → Calls Try.prog 10 #[] W (Yes w) := fun W hf => (sanity_yes W).mono fun _ _ h => ⟨h.1, hf.trans h.2 fun _ h => h.elim⟩
  have HS := Lib.hid hsan
  clear hsan
  go_enter Try.func3, Try.ntmps3
  go_wp2_with fail
  refine opened_any.mono ?_
  rintro e w1 (⟨rfl, hf⟩ | ⟨hb, L, s, A, rfl, h8, hO, hbig, hwo, hlv, hdb, hcp, hwd⟩)
  · have HF := Lib.hid hf
    clear hf
    go_wp2_with (go_at_call 10; refine (HS.out _ HF.out).mono ?_; rintro e w2 ⟨rfl, hf⟩; have H2 := Lib.hid hf; clear hf)
    go_ret
    exact ⟨rfl, H2.out⟩
  have HO := Lib.hid hO
  clear hO hbig hwo hlv hdb hcp hwd
  go_wp2_with fail
  refine (fits_any (HO.out.acts HA.out hB) (by have := HO.out.fr.size; omega)).mono ?_
  rintro e w2 ⟨⟨b, rfl, hn⟩, hf⟩
  have H2 := Lib.hid (HO.out.of_fr hf)
  clear hf HO
  cases b with
  | false =>
    clear hn
    go_wp2_with (go_at_call 10; refine (HS.out _ H2.out.fr).mono ?_; rintro e w3 ⟨rfl, hf⟩; have H3 := Lib.hid hf; clear hf)
    go_ret
    exact ⟨rfl, H3.out⟩
  | true =>
    have h300 : n ≤ 300 := hn rfl
    clear hn
    by_cases hlim : 0 ≤ refs ∧ 0 ≤ raws ∧ refs ≤ 4000 ∧ raws ≤ 4000
    rotate_left
    · have HL := Lib.hid hlim
      clear hlim
      go_wp2_with fail
      all_goals try (exfalso; have := HL.out; omega)
      all_goals
        refine (HS.out _ H2.out.fr).mono ?_
        rintro e w3 ⟨rfl, hf⟩
        have H3 := Lib.hid hf
        clear hf
        go_wp2
        go_ret
        exact ⟨rfl, H3.out⟩
    obtain ⟨v1, v2, v3, v4⟩ := hlim
    go_wp2_with fail
    go_loopw [16] (fun i wr => ∃ k : Nat, k ≤ n ∧ i = .int .i64 k ∧ Fst room young hb w k wr) (fun i _ => n - (intOf i).toNat)
    case atStart => exact ⟨0, Nat.zero_le _, rfl, L, s, A, H2.out⟩
    case round =>
      obtain ⟨k, hk, rfl, L1, s1, A1, hO⟩ := hrel
      have HO := Lib.hid hO
      clear hO H2
      by_cases hlt : k < n
      · obtain ⟨b, off, rfl, hbB, hi⟩ := HA.out (by omega)
        obtain ⟨kd, a1, a2, a3, a4, ha⟩ := hi k hlt
        obtain ⟨q0, q1, c0, c1, c2, c3, c4, i1, i2, i3, i4⟩ := ha.of_block (HO.out.fr.block b (by omega) id)
        clear hi ha i1 i2 i3 i4
        go_wp2_with fail
        refine (do_any HO.out.rep HO.out.good (by omega) q0).mono ?_
        rintro e w3 ⟨n0, n1, n2, x, rfl, hd⟩
        obtain ⟨L2, s2, A2, hO2, _⟩ := HO.out.did hd
        have HO2 := Lib.hid hO2
        clear hd HO hO2
        go_wp2_with fail
        go_roundw
        case rel => exact ⟨k + 1, by omega, by go_num, L2, s2, A2, HO2.out⟩
        case measure => simp [intOf]; omega
      · have hk3 : k ≤ 300 := by omega
        obtain ⟨lv, elv⟩ : ∃ x, x = A1.live := ⟨_, rfl⟩
        have hL := HO.out.lives
        rw [← elv] at hL
        have HL := Lib.hid hL
        have ELV := Lib.hid elv
        clear hL elv
        go_wp2_with fail
        refine HL.out.mono ?_
        rintro e w3 ⟨rfl, L2, s2, hO2, _⟩
        have HO2 := Lib.hid hO2
        clear hO2 HL HO
        go_wp2_with fail
        refine HO2.out.dumps.mono ?_
        rintro e w4 ⟨d1, k1, d2, k2, rfl, L3, s3, hO3, hlf, hft, hdk⟩
        obtain ⟨z1, z2, z3, z4, z5, z6⟩ := hO3.sizes
        obtain ⟨ns, ens⟩ : ∃ x, x = A1.slots.length := ⟨_, rfl⟩
        obtain ⟨no, eno⟩ : ∃ x, x = (dumpL A1).length := ⟨_, rfl⟩
        obtain ⟨bs, ebs⟩ : ∃ x, x = w3.heap.size := ⟨_, rfl⟩
        obtain ⟨wd, ewd⟩ : ∃ x, x = w4.alloc (.cells #[.slice d1 ns k1, .slice d2 no k2] 38) := ⟨_, rfl⟩
        have hs3 : bs ≤ w4.heap.size := by have := hlf.fr.size; omega
        have hbox : wd.heap[w4.heap.size]? = some (.cells #[.slice d1 ns k1, .slice d2 no k2] 38 (0, 0)) := by rw [ewd]; exact World.alloc_heap_new w4 _
        have hszd : wd.heap.size = w4.heap.size + 1 := by rw [ewd]; simp
        have hOd : Op room young w.heap.size hb L3 s3 A1 k w wd := by rw [ewd]; exact hO3.of_fr (fr_alloc1 _ _)
        have hK : DKeep hb bs wd L3 wd := ⟨fun j hj => .inl (by rw [ebs]; exact hft j hj), fun _ _ _ => rfl, Nat.le_refl _⟩
        have hdk' : DumpK A1 bs wd d1 k1 d2 k2 := by rw [ewd, ebs]; exact hdk.keep (by simp) fun j _ hj => Below.heap_alloc _ _ _ hj
        have hlv0 : (lv : Int) ≤ room := by rw [ELV.out]; exact z4
        have hns : s3.slots.length = ns := by rw [ens]; exact z3
        have HOD := Lib.hid hOd
        have HK := Lib.hid hK
        have HD := Lib.hid (And.intro hdk' (And.intro hbox (And.intro hszd hs3)))
        have HE := Lib.hid (And.intro ens (And.intro eno (And.intro (show A1.slots.length ≤ 1000000 by omega) z2)))
        have HNS := Lib.hid hns
        rw [← ens, ← eno]
        have HWD := Lib.hid ewd
        have hns4 : ns ≤ 4096 := by omega
        clear hO3 hlf hft hdk HO2 ens eno ebs ewd hs3 hbox hszd hOd hK hdk' z1 z2 z3 z4 hns hlt
        go_wp2_with fail
        rw [← HWD.out]
        clear HWD
        by_cases hto : 0 ≤ to ∧ to < (ns : Int)
        · obtain ⟨i, rfl⟩ : ∃ i : Nat, to = i := ⟨to.toNat, by omega⟩
          obtain ⟨nr, rfl⟩ : ∃ i : Nat, refs = i := ⟨refs.toNat, by omega⟩
          obtain ⟨nw, rfl⟩ : ∃ i : Nat, raws = i := ⟨raws.toNat, by omega⟩
          have hM := HOD.out.make_c (to := i) (tag := 5) (refs := nr) (raws := nw) (by omega) (by have := HE.out.1; omega) (by omega) (by omega) (by omega)
          rw [← ELV.out] at hM
          have hi2 := hto.2
          refine hM.mono ?_
          rintro e w5 (⟨hyes, rfl, L5, s5, hO5, hl5⟩ | ⟨hno, rfl, L5, s5, hO5, hl5⟩)
          · have hmk : (A1.make i 5 nr nw).slots[i]? = some (A1.objs.length + 1) := by
              have := HE.out.1
              show (A1.slots.set i (A1.objs.length + 1))[i]? = _
              rw [List.getElem?_set_self (by omega)]
            have hob : (A1.make i 5 nr nw).obj A1.objs.length = ⟨5, List.replicate nr 0, List.replicate nw 0⟩ := by rw [obj_make, if_pos rfl]
            obtain ⟨zz1, _, zz3, zz4, _, _⟩ := hO5.sizes
            have hns5 : s5.slots.length = ns := by rw [zz3, HE.out.1]; simp [AHeap.make]
            have hlv5 : ((A1.make i 5 nr nw).live : Int) ≤ room := zz4
            obtain ⟨lv5, elv5⟩ : ∃ x, x = (A1.make i 5 nr nw).live := ⟨_, rfl⟩
            rw [← elv5] at hlv5
            have HO5 := Lib.hid hO5
            have HMK := Lib.hid (And.intro hmk (And.intro hob (And.intro hns5 elv5)))
            clear hO5 hl5 hmk hob zz1 zz3 zz4 hns5 elv5 hM
            go_wp2_with fail
            have hS := Slots_any HO5.out.rep
            rw [HMK.out.2.2.1] at hS
            refine hS.mono ?_
            rintro e w6 ⟨rfl, hw6⟩
            rw [hw6]
            clear hS hw6 w6
            go_wp2_with fail
            refine (Shape_any HO5.out.rep HO5.out.good (by have := HO5.out.good.kb; omega)).mono ?_
            rintro e w7 ⟨x, a, b, c, rfl, _, hsh⟩
            obtain ⟨rfl, e1, e2, e3, L7, s7, q1, q2, q3, q4, q5⟩ := hsh i _ rfl HMK.out.1
            rw [HMK.out.2.1] at e1 e2 e3
            simp at e1 e2 e3
            subst e1 e2 e3
            have HO7 := Lib.hid (HO5.out.left q1 q2 q3 q4 q5)
            clear hsh q1 q2 q3 q4 q5 HO5
            go_wp2_with fail
            refine (sanity_yes _).mono ?_
            rintro e w8 ⟨rfl, hf8⟩
            have HO8 := Lib.hid (HO7.out.of_fr hf8)
            clear hf8 HO7
            go_wp2_with fail
            have hL8 := HO8.out.lives
            rw [← HMK.out.2.2.2] at hL8
            refine hL8.mono ?_
            rintro e w9 ⟨rfl, L9, s9, hO9, _⟩
            have HO9 := Lib.hid hO9
            clear hO9 hL8 HO8
            go_wp2
            go_ret
            exact ⟨rfl, HO9.out.fr⟩
          · have hns5 : s5.slots.length = ns := by rw [HE.out.1]; exact hO5.sizes.2.2.1
            have HO5 := Lib.hid hO5
            have HK5 := Lib.hid (HK.out.left hl5)
            have HN5 := Lib.hid hns5
            clear hO5 hl5 hns5 hM
            go_wp2_with fail
            have hS := Slots_any HO5.out.rep
            rw [HN5.out] at hS
            refine hS.mono ?_
            rintro e w6 ⟨rfl, hw6⟩
            rw [hw6]
            clear hS hw6 w6
            go_wp2_with fail
            have hbx : w5.heap[w4.heap.size]? = some (.cells #[.slice d1 ns k1, .slice d2 no k2] 38 (0, 0)) := by
              have h1 := HD.out.2.2.1
              rw [HK5.out.blk _ HD.out.2.2.2 (by omega)]
              exact HD.out.2.1
            have x0 : w5.cell? ⟨w4.heap.size, 0, none⟩ = some (.slice d1 ns k1) := by simp only [World.cell?, hbx]; rfl
            have x1 : w5.cell? ⟨w4.heap.size, 1, none⟩ = some (.slice d2 no k2) := by simp only [World.cell?, hbx]; rfl
            have HX5 := Lib.hid hbx
            have hlf : ∀ L' : Lay, (∀ j, L'.foot hb j → j < bs ∨ wd.heap.size ≤ j) → ¬ L'.foot hb w4.heap.size := fun L' h hf => by
              have h1 := HD.out.2.2.1
              have h2 := HD.out.2.2.2
              have := h _ hf
              omega
            have HLF := Lib.hid hlf
            clear hbx hlf
            go_region_held3 (fun W => W.cell? ⟨w4.heap.size, 0, none⟩ = some (.slice d1 ns k1) ∧ W.cell? ⟨w4.heap.size, 1, none⟩ = some (.slice d2 no k2)) (go_keep) (first | (go_at_call 10; refine (sanity_yes _).mono ?_; rintro e w6 ⟨rfl, hf5⟩; have hf6 := ((Fr.refl (fun _ => False) w5).drewN 1).trans hf5 (fun _ h => h.elim); have HO6 := Lib.hid (HO5.out.of_fr hf6); have HK6 := Lib.hid (HK5.out.of_fr hf6); have HX6 := Lib.hid (box_keep HX5.out hf6); (have y0 : w6.cell? ⟨w4.heap.size, 0, none⟩ = some (.slice d1 ns k1) := by simp only [World.cell?, HX6.out]; rfl); (have y1 : w6.cell? ⟨w4.heap.size, 1, none⟩ = some (.slice d2 no k2) := by simp only [World.cell?, HX6.out]; rfl); clear hf5 hf6) | (go_at_call 13; have q := HO6.out.dumps; rw [← HE.out.1, ← HE.out.2.1] at q; refine q.mono ?_; rintro e w7 ⟨b1, l1, b2, l2, rfl, L7, s7, hO7, hl7, _, hdk7⟩; have HO7 := Lib.hid hO7; have HK7 := Lib.hid (HK6.out.left hl7); have HD7 := Lib.hid hdk7; (have hx7 : w7.heap[w4.heap.size]? = some (.cells #[.slice d1 ns k1, .slice d2 no k2] 38 (0, 0)) := by rw [hl7.fr.block _ (Array.getElem?_eq_some_iff.1 HX6.out).1 (HLF.out _ HK6.out.foot)]; exact HX6.out); (have y0 : w7.cell? ⟨w4.heap.size, 0, none⟩ = some (.slice d1 ns k1) := by simp only [World.cell?, hx7]; rfl); (have y1 : w7.cell? ⟨w4.heap.size, 1, none⟩ = some (.slice d2 no k2) := by simp only [World.cell?, hx7]; rfl); have HX7 := Lib.hid hx7; clear hO7 hl7 hdk7 hx7 q) | (go_at_call 16; have q := Same_eq (w := w7) (xs := A1.slots.map (numOf A1)) (n := A1.slots.length) (O := dumpL A1) (by simp) (HD7.out.slots w7 fun _ _ _ => rfl) (HD.out.1.slots w7 HK7.out.blk) HE.out.2.2.1 HE.out.2.2.2 (HD7.out.objs w7 fun _ _ _ => rfl) (HD.out.1.objs w7 HK7.out.blk); rw [← HE.out.1, ← HE.out.2.1] at q; refine q.mono ?_; rintro e w8 ⟨rfl, hf8⟩; have HO8 := Lib.hid (HO7.out.of_fr hf8); have HX8 := Lib.hid (box_keep HX7.out hf8); have HK8 := Lib.hid (HK7.out.of_fr hf8); (have y0 : w8.cell? ⟨w4.heap.size, 0, none⟩ = some (.slice d1 ns k1) := by simp only [World.cell?, HX8.out]; rfl); (have y1 : w8.cell? ⟨w4.heap.size, 1, none⟩ = some (.slice d2 no k2) := by simp only [World.cell?, HX8.out]; rfl); clear hf8 q) | (go_at_call 12; have q := HO8.out.lives; rw [← ELV.out] at q; refine q.mono ?_; rintro e w9 ⟨rfl, L9, s9, hO9, hl9⟩; have HO9 := Lib.hid hO9; (have hx9 : w9.heap[w4.heap.size]? = some (.cells #[.slice d1 ns k1, .slice d2 no k2] 38 (0, 0)) := by rw [hl9.fr.block _ (Array.getElem?_eq_some_iff.1 HX8.out).1 (HLF.out _ HK8.out.foot)]; exact HX8.out); (have y0 : w9.cell? ⟨w4.heap.size, 0, none⟩ = some (.slice d1 ns k1) := by simp only [World.cell?, hx9]; rfl); (have y1 : w9.cell? ⟨w4.heap.size, 1, none⟩ = some (.slice d2 no k2) := by simp only [World.cell?, hx9]; rfl); clear hO9 hl9 hx9 q))
            go_wp2
            go_ret
            exact ⟨rfl, HO9.out.fr⟩
        · have hM := HOD.out.make_arg (to := to) (tag := 5) (refs := refs) (raws := raws) (by rw [HNS.out]; omega)
          rw [HNS.out] at hM
          refine hM.mono ?_
          rintro e w5 ⟨rfl, L5, s5, hO5, hl5, hns5⟩
          have HO5 := Lib.hid hO5
          have HK5 := Lib.hid (HK.out.left hl5)
          have HN5 := Lib.hid hns5
          clear hO5 hl5 hns5 hM
          by_cases ht0 : to < 0
          · clear hto
            go_wp2_with fail
            have hbx : w5.heap[w4.heap.size]? = some (.cells #[.slice d1 ns k1, .slice d2 no k2] 38 (0, 0)) := by
              have h1 := HD.out.2.2.1
              rw [HK5.out.blk _ HD.out.2.2.2 (by omega)]
              exact HD.out.2.1
            have x0 : w5.cell? ⟨w4.heap.size, 0, none⟩ = some (.slice d1 ns k1) := by simp only [World.cell?, hbx]; rfl
            have x1 : w5.cell? ⟨w4.heap.size, 1, none⟩ = some (.slice d2 no k2) := by simp only [World.cell?, hbx]; rfl
            have HX5 := Lib.hid hbx
            have hlf : ∀ L' : Lay, (∀ j, L'.foot hb j → j < bs ∨ wd.heap.size ≤ j) → ¬ L'.foot hb w4.heap.size := fun L' h hf => by
              have h1 := HD.out.2.2.1
              have h2 := HD.out.2.2.2
              have := h _ hf
              omega
            have HLF := Lib.hid hlf
            clear hbx hlf
            go_region_held3 (fun W => W.cell? ⟨w4.heap.size, 0, none⟩ = some (.slice d1 ns k1) ∧ W.cell? ⟨w4.heap.size, 1, none⟩ = some (.slice d2 no k2)) (go_keep) (first | (go_at_call 10; refine (sanity_yes _).mono ?_; rintro e w6 ⟨rfl, hf5⟩; have hf6 := ((Fr.refl (fun _ => False) w5).drewN 1).trans hf5 (fun _ h => h.elim); have HO6 := Lib.hid (HO5.out.of_fr hf6); have HK6 := Lib.hid (HK5.out.of_fr hf6); have HX6 := Lib.hid (box_keep HX5.out hf6); (have y0 : w6.cell? ⟨w4.heap.size, 0, none⟩ = some (.slice d1 ns k1) := by simp only [World.cell?, HX6.out]; rfl); (have y1 : w6.cell? ⟨w4.heap.size, 1, none⟩ = some (.slice d2 no k2) := by simp only [World.cell?, HX6.out]; rfl); clear hf5 hf6) | (go_at_call 13; have q := HO6.out.dumps; rw [← HE.out.1, ← HE.out.2.1] at q; refine q.mono ?_; rintro e w7 ⟨b1, l1, b2, l2, rfl, L7, s7, hO7, hl7, _, hdk7⟩; have HO7 := Lib.hid hO7; have HK7 := Lib.hid (HK6.out.left hl7); have HD7 := Lib.hid hdk7; (have hx7 : w7.heap[w4.heap.size]? = some (.cells #[.slice d1 ns k1, .slice d2 no k2] 38 (0, 0)) := by rw [hl7.fr.block _ (Array.getElem?_eq_some_iff.1 HX6.out).1 (HLF.out _ HK6.out.foot)]; exact HX6.out); (have y0 : w7.cell? ⟨w4.heap.size, 0, none⟩ = some (.slice d1 ns k1) := by simp only [World.cell?, hx7]; rfl); (have y1 : w7.cell? ⟨w4.heap.size, 1, none⟩ = some (.slice d2 no k2) := by simp only [World.cell?, hx7]; rfl); have HX7 := Lib.hid hx7; clear hO7 hl7 hdk7 hx7 q) | (go_at_call 16; have q := Same_eq (w := w7) (xs := A1.slots.map (numOf A1)) (n := A1.slots.length) (O := dumpL A1) (by simp) (HD7.out.slots w7 fun _ _ _ => rfl) (HD.out.1.slots w7 HK7.out.blk) HE.out.2.2.1 HE.out.2.2.2 (HD7.out.objs w7 fun _ _ _ => rfl) (HD.out.1.objs w7 HK7.out.blk); rw [← HE.out.1, ← HE.out.2.1] at q; refine q.mono ?_; rintro e w8 ⟨rfl, hf8⟩; have HO8 := Lib.hid (HO7.out.of_fr hf8); have HX8 := Lib.hid (box_keep HX7.out hf8); have HK8 := Lib.hid (HK7.out.of_fr hf8); (have y0 : w8.cell? ⟨w4.heap.size, 0, none⟩ = some (.slice d1 ns k1) := by simp only [World.cell?, HX8.out]; rfl); (have y1 : w8.cell? ⟨w4.heap.size, 1, none⟩ = some (.slice d2 no k2) := by simp only [World.cell?, HX8.out]; rfl); clear hf8 q))
            go_wp2
            go_ret
            exact ⟨rfl, HO8.out.fr⟩
          · have hto' : (ns : Int) ≤ to := by omega
            have ht1 : 0 ≤ to := by omega
            clear hto ht0
            go_wp2_with fail
            have hS := Slots_any HO5.out.rep
            rw [HN5.out] at hS
            refine hS.mono ?_
            rintro e w6 ⟨rfl, hw6⟩
            rw [hw6]
            clear hS hw6 w6
            go_wp2_with fail
            have hbx : w5.heap[w4.heap.size]? = some (.cells #[.slice d1 ns k1, .slice d2 no k2] 38 (0, 0)) := by
              have h1 := HD.out.2.2.1
              rw [HK5.out.blk _ HD.out.2.2.2 (by omega)]
              exact HD.out.2.1
            have x0 : w5.cell? ⟨w4.heap.size, 0, none⟩ = some (.slice d1 ns k1) := by simp only [World.cell?, hbx]; rfl
            have x1 : w5.cell? ⟨w4.heap.size, 1, none⟩ = some (.slice d2 no k2) := by simp only [World.cell?, hbx]; rfl
            have HX5 := Lib.hid hbx
            have hlf : ∀ L' : Lay, (∀ j, L'.foot hb j → j < bs ∨ wd.heap.size ≤ j) → ¬ L'.foot hb w4.heap.size := fun L' h hf => by
              have h1 := HD.out.2.2.1
              have h2 := HD.out.2.2.2
              have := h _ hf
              omega
            have HLF := Lib.hid hlf
            clear hbx hlf
            go_region_held3 (fun W => W.cell? ⟨w4.heap.size, 0, none⟩ = some (.slice d1 ns k1) ∧ W.cell? ⟨w4.heap.size, 1, none⟩ = some (.slice d2 no k2)) (go_keep) (first | (go_at_call 10; refine (sanity_yes _).mono ?_; rintro e w6 ⟨rfl, hf5⟩; have hf6 := ((Fr.refl (fun _ => False) w5).drewN 1).trans hf5 (fun _ h => h.elim); have HO6 := Lib.hid (HO5.out.of_fr hf6); have HK6 := Lib.hid (HK5.out.of_fr hf6); have HX6 := Lib.hid (box_keep HX5.out hf6); (have y0 : w6.cell? ⟨w4.heap.size, 0, none⟩ = some (.slice d1 ns k1) := by simp only [World.cell?, HX6.out]; rfl); (have y1 : w6.cell? ⟨w4.heap.size, 1, none⟩ = some (.slice d2 no k2) := by simp only [World.cell?, HX6.out]; rfl); clear hf5 hf6) | (go_at_call 13; have q := HO6.out.dumps; rw [← HE.out.1, ← HE.out.2.1] at q; refine q.mono ?_; rintro e w7 ⟨b1, l1, b2, l2, rfl, L7, s7, hO7, hl7, _, hdk7⟩; have HO7 := Lib.hid hO7; have HK7 := Lib.hid (HK6.out.left hl7); have HD7 := Lib.hid hdk7; (have hx7 : w7.heap[w4.heap.size]? = some (.cells #[.slice d1 ns k1, .slice d2 no k2] 38 (0, 0)) := by rw [hl7.fr.block _ (Array.getElem?_eq_some_iff.1 HX6.out).1 (HLF.out _ HK6.out.foot)]; exact HX6.out); (have y0 : w7.cell? ⟨w4.heap.size, 0, none⟩ = some (.slice d1 ns k1) := by simp only [World.cell?, hx7]; rfl); (have y1 : w7.cell? ⟨w4.heap.size, 1, none⟩ = some (.slice d2 no k2) := by simp only [World.cell?, hx7]; rfl); have HX7 := Lib.hid hx7; clear hO7 hl7 hdk7 hx7 q) | (go_at_call 16; have q := Same_eq (w := w7) (xs := A1.slots.map (numOf A1)) (n := A1.slots.length) (O := dumpL A1) (by simp) (HD7.out.slots w7 fun _ _ _ => rfl) (HD.out.1.slots w7 HK7.out.blk) HE.out.2.2.1 HE.out.2.2.2 (HD7.out.objs w7 fun _ _ _ => rfl) (HD.out.1.objs w7 HK7.out.blk); rw [← HE.out.1, ← HE.out.2.1] at q; refine q.mono ?_; rintro e w8 ⟨rfl, hf8⟩; have HO8 := Lib.hid (HO7.out.of_fr hf8); have HX8 := Lib.hid (box_keep HX7.out hf8); have HK8 := Lib.hid (HK7.out.of_fr hf8); (have y0 : w8.cell? ⟨w4.heap.size, 0, none⟩ = some (.slice d1 ns k1) := by simp only [World.cell?, HX8.out]; rfl); (have y1 : w8.cell? ⟨w4.heap.size, 1, none⟩ = some (.slice d2 no k2) := by simp only [World.cell?, HX8.out]; rfl); clear hf8 q))
            go_wp2
            go_ret
            exact ⟨rfl, HO8.out.fr⟩
end Go.Proofs.Ythjokcjdphempaa

namespace Go.Proofs.Ythjokcjdphempaa
open Go.ChangeShapes Go.WideShapes Go.ChangeAt Go.RowKit Go.Joins

set_option maxRecDepth 100000 in
theorem full_lifted (os : Os) (started : os.Started) (H : Type) (enc : TypeId × Value → H) :
    ReturnsInHanded {} Try.checked os 3 .any (Rows.heapFullSpec.pre6 enc Try.prog Try.f3 Rows.heapFullRow.domain false) (Rows.heapFullSpec.post enc Try.prog Try.f3 false true false false) := by
  refine returnsInHanded_of_change (C := Try.checked) own started (by kernel_rfl) Try.func3
    (ChangeSpec.witness6 (enc := enc) (C := Try.checked) false ⟨#[], #[.int .i64 0, .int .i64 0, .int .i64 0, .slice none 0 0, .int .i64 0, .int .i64 0, .int .i64 0], []⟩ 8 (by kernel_rfl) (by kernel_rfl) (by kernel_rfl) (by kernel_rfl)) ?_
  intro W base args ds gs before hval0 hW hcnd _
  have hval : ∀ (j : Nat) t v, Try.f3.params[j]? = some t → args[j]? = some v → Value.okWide Try.prog W .any base t v := hval0
  have hW' := hW
  obtain ⟨p, q, hA0, hV, rfl, hfz, hnd⟩ := hW
  have hA : DataW.TrodAll enc Try.prog W 0 (fun _ => true) true Try.f3.params.toList args.toList ds p := hA0
  rw [Try.params3] at hA hval
  obtain ⟨v0, vs0, d0, ds0, p0, q0, hargs, rfl, rfl, h0, r0⟩ := trodAll_cons hA
  obtain ⟨v1, vs1, d1, ds1, p1, q1, rfl, rfl, rfl, h1, r1⟩ := trodAll_cons r0
  obtain ⟨v2, vs2, d2, ds2, p2, q2, rfl, rfl, rfl, h2, r2⟩ := trodAll_cons r1
  obtain ⟨v3, vs3, d3, ds3, p3, q3, rfl, rfl, rfl, h3, r3⟩ := trodAll_cons r2
  obtain ⟨v4, vs4, d4, ds4, p4, q4, rfl, rfl, rfl, h4, r4⟩ := trodAll_cons r3
  obtain ⟨v5, vs5, d5, ds5, p5, q5, rfl, rfl, rfl, h5, r5⟩ := trodAll_cons r4
  obtain ⟨v6, vs6, d6, ds6, p6, q6, rfl, rfl, rfl, h6, r6⟩ := trodAll_cons r5
  obtain ⟨rfl, rfl, rfl⟩ := trodAll_nil r6
  obtain rfl : args = #[v0, v1, v2, v3, v4, v5, v6] := by cases args; simp_all
  obtain ⟨rfl, rfl⟩ := trodVars_none hV
  have lt0 : ∀ x ∈ p0, x.block < W.heap.size := by obtain ⟨m, hm⟩ := h0; exact DataW.trod_lt m _ _ _ hm
  have lt1 : ∀ x ∈ p1, x.block < W.heap.size := by obtain ⟨m, hm⟩ := h1; exact DataW.trod_lt m _ _ _ hm
  have lt2 : ∀ x ∈ p2, x.block < W.heap.size := by obtain ⟨m, hm⟩ := h2; exact DataW.trod_lt m _ _ _ hm
  have lt3 : ∀ x ∈ p3, x.block < W.heap.size := by obtain ⟨m, hm⟩ := h3; exact DataW.trod_lt m _ _ _ hm
  have lt4 : ∀ x ∈ p4, x.block < W.heap.size := by obtain ⟨m, hm⟩ := h4; exact DataW.trod_lt m _ _ _ hm
  have lt5 : ∀ x ∈ p5, x.block < W.heap.size := by obtain ⟨m, hm⟩ := h5; exact DataW.trod_lt m _ _ _ hm
  have lt6 : ∀ x ∈ p6, x.block < W.heap.size := by obtain ⟨m, hm⟩ := h6; exact DataW.trod_lt m _ _ _ hm
  obtain ⟨room, rfl⟩ := okWide_int Try.underlying3 (hval 0 3 v0 rfl rfl)
  obtain ⟨young, rfl⟩ := okWide_int Try.underlying3 (hval 1 3 v1 rfl rfl)
  obtain ⟨slots, rfl⟩ := okWide_int Try.underlying3 (hval 2 3 v2 rfl rfl)
  obtain ⟨X, n, cap, rfl, hX⟩ := open_acts (hval 3 22 v3 rfl rfl) h3
  obtain ⟨to, rfl⟩ := okWide_int Try.underlying3 (hval 4 3 v4 rfl rfl)
  obtain ⟨refs, rfl⟩ := okWide_int Try.underlying3 (hval 5 3 v5 rfl rfl)
  obtain ⟨raws, rfl⟩ := okWide_int Try.underlying3 (hval 6 3 v6 rfl rfl)
  clear hA0 hval0 r0 r1 r2 r3 r4 r5 r6
  refine (full_law hX (Nat.le_refl _)).mono fun e W' ⟨he, hfr⟩ => ?_
  have bel : Below W.heap.size W W' := ⟨hfr.os, hfr.tape, hfr.output, hfr.size, fun k hk => hfr.block k hk id⟩
  subst he
  exact ⟨_, rfl, _, _, _, [], _, [], hW', trodAll_mk1 (shut_bool Try.underlying4 _), (trodAll_cons_mk (Below.trod laidOut (by kernel_rfl) (of_decide_eq_true (by kernel_rfl)) h0 bel lt0) (trodAll_cons_mk (Below.trod laidOut (by kernel_rfl) (of_decide_eq_true (by kernel_rfl)) h1 bel lt1) (trodAll_cons_mk (Below.trod laidOut (by kernel_rfl) (of_decide_eq_true (by kernel_rfl)) h2 bel lt2) (trodAll_cons_mk (Below.trod laidOut (by kernel_rfl) (of_decide_eq_true (by kernel_rfl)) h3 bel lt3) (trodAll_cons_mk (Below.trod laidOut (by kernel_rfl) (of_decide_eq_true (by kernel_rfl)) h4 bel lt4) (trodAll_cons_mk (Below.trod laidOut (by kernel_rfl) (of_decide_eq_true (by kernel_rfl)) h5 bel lt5) (trodAll_cons_mk (Below.trod laidOut (by kernel_rfl) (of_decide_eq_true (by kernel_rfl)) h6 bel lt6) trodAll_mk0))))))), rfl, bel.frame _, fun h => by cases h⟩

theorem full_over : Rows.heapFullRow.holds Try.pinned (OpenSpec.ofChange Rows.heapFullSpec) :=
  OpenClaim.holds_of_wide 3 Try.f3 rfl rfl rfl rfl rfl rfl rfl ⟨rfl, rfl, rfl, rfl, rfl⟩ rfl rfl rfl rfl rfl (by kernel_rfl) Try.func3 (by kernel_rfl)
    (of_decide_eq_true (by kernel_rfl)) (by unfold Func.isWrapper; rw [if_neg (of_decide_eq_false (by kernel_rfl))]; exact ⟨rfl, rfl⟩)
    (fun os started H enc _ => full_lifted os started H enc)

/-- The statement. -/
theorem heap_full : Rows.HeapFullSaid := full_over
end Go.Proofs.Ythjokcjdphempaa

