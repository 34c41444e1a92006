/- The closures of Step, Minor and Whole; Whole over a heap in memory; the words in use are at least Live. -/
import Derived.Test.YthjokcjdphempaaPaid
import Derived.Test.YthjokcjdphempaaCall
import Derived.Test.YthjokcjdphempaaSl
import Derived.Deep.RegionHeld3
import Derived.Test.YthjokcjdphempaaMaken
namespace Go.Proofs.Ythjokcjdphempaa
open Go.RowKit Hp Go.Shelf

section
variable {hb : Nat} {A : AHeap} {L : Lay} {s : HS} {w : World} {G : Areas} {φ : Nat → Int}

theorem step_no {nx hx : Nat} {n : Int} (c2 : w.cell? ⟨nx, 0, none⟩ = some (.int .i64 n)) (hn : n < 0) :
    Calls Try.prog 57 #[.pointer (some ⟨nx, 0, none⟩), .pointer (some ⟨hx, 0, none⟩)] w fun e w' => e = .panicked (trouble 1) ∧ Eqw w w' := by
  have hd : decide (0 ≤ n) = false := by simp; omega
  clear hn
  go_enter Try.func57, Try.ntmps57
  go_wp2_with (go_at_call 51; refine (fail_no _ _).mono ?_; rintro e w' ⟨rfl, rfl⟩)
  exact ⟨rfl, rfl, rfl, rfl, rfl, rfl⟩

theorem Paid.units {u v : Int} {must : Prop} {L' : Lay} {s' : HS} {w' : World} {G' : Areas} {φ' : Nat → Int} {c : Nat} (h : Paid hb A u must L s w w' L' s' G' φ' c) (huv : u ≤ v) : Paid hb A v must L s w w' L' s' G' φ' c :=
  { h with le := by have := h.le; omega }

theorem step_on {nx hx : Nat} {n : Int} {E : World → Prop} (c1 : w.cell? ⟨hx, 0, none⟩ = some (.pointer (some ⟨hb, 0, none⟩))) (c2 : w.cell? ⟨nx, 0, none⟩ = some (.int .i64 n)) (hn : 0 ≤ n) (d1 : w.cell? ⟨hb, 14, none⟩ = some (.bool true))
    (H59 : ∀ u, 0 ≤ u → u ≤ n → u ≤ 262144 → Calls Try.prog 59 #[.pointer (some ⟨hb, 0, none⟩), .int .i64 u] w fun e w' => e = .returned (.tuple #[]) ∧ E w') :
    Calls Try.prog 57 #[.pointer (some ⟨nx, 0, none⟩), .pointer (some ⟨hx, 0, none⟩)] w fun e w' => e = .returned (.tuple #[]) ∧ E w' := by
  have hd : decide (0 ≤ n) = true := by simp; omega
  have h9 := Lib.hid H59
  clear H59
  rcases Int.lt_or_le 262144 n with hle | hle
  all_goals
    go_enter Try.func57, Try.ntmps57
    go_wp2_with (first | (go_at_call 51; refine (fail_yes _ _).mono ?_; rintro e w' ⟨rfl, rfl⟩) | (go_at_call 59; refine (h9.out _ (by omega) (by omega) (by omega)).mono ?_; rintro e w' ⟨rfl, hE⟩; have HE := Lib.hid hE; clear hE))
    go_end0
    exact ⟨rfl, HE.out⟩

theorem step_off {nx hx : Nat} {n : Int} {M E : World → Prop} (c1 : w.cell? ⟨hx, 0, none⟩ = some (.pointer (some ⟨hb, 0, none⟩))) (c2 : w.cell? ⟨nx, 0, none⟩ = some (.int .i64 n)) (hn : 0 ≤ n) (d1 : w.cell? ⟨hb, 14, none⟩ = some (.bool false))
    (H58 : Calls Try.prog 58 #[.pointer (some ⟨hb, 0, none⟩)] w fun e w' => e = .returned (.tuple #[]) ∧ M w')
    (hM : ∀ w1, M w1 → w1.cell? ⟨hx, 0, none⟩ = some (.pointer (some ⟨hb, 0, none⟩)) ∧ w1.cell? ⟨nx, 0, none⟩ = some (.int .i64 n))
    (H59 : ∀ w1 u, M w1 → 0 ≤ u → u ≤ n → u ≤ 262144 → Calls Try.prog 59 #[.pointer (some ⟨hb, 0, none⟩), .int .i64 u] w1 fun e w' => e = .returned (.tuple #[]) ∧ E w') :
    Calls Try.prog 57 #[.pointer (some ⟨nx, 0, none⟩), .pointer (some ⟨hx, 0, none⟩)] w fun e w' => e = .returned (.tuple #[]) ∧ E w' := by
  have hd : decide (0 ≤ n) = true := by simp; omega
  have h8 := Lib.hid H58
  have h9 := Lib.hid H59
  have hm := Lib.hid hM
  clear H58 H59 hM
  rcases Int.lt_or_le 262144 n with hle | hle
  all_goals
    go_enter Try.func57, Try.ntmps57
    go_wp2_with (first | (go_at_call 51; refine (fail_yes _ _).mono ?_; rintro e w' ⟨rfl, rfl⟩) | (go_at_call 58; refine h8.out.mono ?_; rintro e w1 ⟨rfl, hm1⟩; obtain ⟨k1, k2⟩ := hm.out _ hm1; have H1 := Lib.hid hm1; clear hm1) | (go_at_call 59; refine (h9.out _ _ H1.out (by omega) (by omega) (by omega)).mono ?_; rintro e w' ⟨rfl, hE⟩; have HE := Lib.hid hE; clear hE))
    go_end0
    exact ⟨rfl, HE.out⟩

theorem step_yes {nx hx : Nat} {n : Int} (hr : HRep w hb L s) (c1 : w.cell? ⟨hx, 0, none⟩ = some (.pointer (some ⟨hb, 0, none⟩))) (c2 : w.cell? ⟨nx, 0, none⟩ = some (.int .i64 n)) (n1 : ¬ L.foot hb hx) (n2 : ¬ L.foot hb nx) (hn : 0 ≤ n)
    (hi : InvG s G φ A) (hz : Sized s A) (hbig : s.big ≤ 8001) (hwc : s.words + s.copied ≤ 100000000000) :
    Calls Try.prog 57 #[.pointer (some ⟨nx, 0, none⟩), .pointer (some ⟨hx, 0, none⟩)] w fun e w' => e = .returned (.tuple #[]) ∧ ∃ L' s' G' φ' c, Paid hb A n True L s w w' L' s' G' φ' c := by
  have d1 := hr.c14
  cases hm : s.moves with
  | true =>
    rw [hm] at d1
    refine step_on c1 c2 hn d1 (fun u h0 hu hu2 => ?_)
    refine (work_any hr hi hm hz hbig hwc ⟨h0, by omega⟩).mono ?_
    rintro e w' ⟨rfl, L', s', G', φ', k, hw⟩
    exact ⟨rfl, L', s', G', φ', k, (hw.paid hi.sum).units hu⟩
  | false =>
    rw [hm] at d1
    refine step_off (M := fun W => ∃ L1 s1 G1, Begun hb A φ L s w W L1 s1 G1) c1 c2 hn d1 ((began_any hr hi hz hm).mono fun _ _ h => h) ?_ ?_
    · rintro w1 ⟨L1, s1, G1, h⟩
      exact ⟨fr_cell h.left.fr c1 n1, fr_cell h.left.fr c2 n2⟩
    · rintro w1 u ⟨L1, s1, G1, h1⟩ h0 hu hu2
      have hm1 : s1.moves = true := h1.same.moves
      refine (work_any h1.rep h1.inv hm1 (h1.sized hz) (by rw [show s1.big = s.big from h1.same.big]; exact hbig) (by rw [show s1.words = s.words from h1.same.words, h1.copied]; exact hwc) ⟨h0, by omega⟩).mono ?_
      rintro e w' ⟨rfl, L', s', G', φ', k, hw⟩
      exact ⟨rfl, L', s', G', φ', k, (h1.works hw hm (hi.idle hm).2 hi.live (.inl trivial)).units hu⟩
end
end Go.Proofs.Ythjokcjdphempaa

namespace Go.Proofs.Ythjokcjdphempaa
open Go.RowKit Hp Go.Shelf

section
variable {hb : Nat} {A : AHeap} {L : Lay} {s : HS} {w : World} {G : Areas} {φ : Nat → Int}

set_option maxHeartbeats 1000000 in
theorem minor_core2 {hx : Nat} {N : Int → World → Prop} {E : World → Prop} (c1 : w.cell? ⟨hx, 0, none⟩ = some (.pointer (some ⟨hb, 0, none⟩)))
    (H62 : ∀ W, Eqw w W → Calls Try.prog 62 #[.pointer (some ⟨hb, 0, none⟩)] W fun e w' => ∃ r : Int, e = .returned (.int .i64 r) ∧ N r w')
    (hN : ∀ r W, N r W → W.cell? ⟨hx, 0, none⟩ = some (.pointer (some ⟨hb, 0, none⟩)))
    (H61 : ∀ r W, N r W → Calls Try.prog 61 #[.pointer (some ⟨hb, 0, none⟩), .int .i64 r] W fun e w' => e = .returned (.tuple #[]) ∧ E w') (hE : ∀ W, E W → W.cell? ⟨hx, 0, none⟩ = some (.pointer (some ⟨hb, 0, none⟩))) :
    Calls Try.prog 60 #[.pointer (some ⟨hx, 0, none⟩)] w fun e w' => e = .returned (.tuple #[]) ∧ E w' := by
  have h62 := Lib.hid H62
  have h61 := Lib.hid H61
  have hn := Lib.hid hN
  have he := Lib.hid hE
  clear H62 H61 hN hE
  go_enter Try.func60, Try.ntmps60
  go_region_held3 (fun W => W.cell? ⟨hx, 0, none⟩ = some (.pointer (some ⟨hb, 0, none⟩))) (go_keep) (first | (go_at_call 62; refine (h62.out _ (by exact ⟨rfl, rfl, rfl, rfl⟩)).mono ?_; rintro e w1 ⟨r, rfl, hr⟩; have k1 := hn.out _ _ hr; have H1 := Lib.hid hr; clear hr) | (go_at_call 61; refine (h61.out _ _ H1.out).mono ?_; rintro e w2 ⟨rfl, hq⟩; have k2 := he.out _ hq; have H2 := Lib.hid hq; clear hq))
  go_end0
  exact ⟨rfl, H2.out⟩

set_option maxRecDepth 100000 in
set_option maxHeartbeats 1000000 in
theorem whole_core {hx : Nat} {M : Nat → World → Prop} {E : World → Prop} (c1 : w.cell? ⟨hx, 0, none⟩ = some (.pointer (some ⟨hb, 0, none⟩)))
    (H62 : Calls Try.prog 62 #[.pointer (some ⟨hb, 0, none⟩)] w fun e w' => ∃ r : Int, e = .returned (.int .i64 r) ∧ M 0 w')
    (hM : ∀ k W, M k W → W.cell? ⟨hx, 0, none⟩ = some (.pointer (some ⟨hb, 0, none⟩)))
    (H0 : ∀ W, M 0 W → Calls Try.prog 64 #[.pointer (some ⟨hb, 0, none⟩)] W fun e w' => e = .returned (.tuple #[]) ∧ M 1 w')
    (H1 : ∀ W, M 1 W → Calls Try.prog 58 #[.pointer (some ⟨hb, 0, none⟩)] W fun e w' => e = .returned (.tuple #[]) ∧ M 2 w')
    (H2 : ∀ W, M 2 W → Calls Try.prog 64 #[.pointer (some ⟨hb, 0, none⟩)] W fun e w' => e = .returned (.tuple #[]) ∧ M 3 w')
    (hend : ∀ W, M 3 W → ∃ (now n c : Nat) (a : Option Addr) (bd : Int), now < 2 ∧ n ≤ 900000000000 ∧ W.cell? ⟨hb, 11, none⟩ = some (.int .i64 now) ∧ W.cell? ⟨hb, 8 + now, none⟩ = some (.slice a n c) ∧ W.cell? ⟨hb, 15, none⟩ = some (.int .i64 bd) ∧ W.frozen? ⟨hb, 15, none⟩ = false ∧
      ∀ W', Eqw (W.setCell ⟨hb, 15, none⟩ (.int .i64 n)) W' → E W') :
    Calls Try.prog 63 #[.pointer (some ⟨hx, 0, none⟩)] w fun e w' => e = .returned (.tuple #[]) ∧ E w' := by
  have i0 : ∀ (x0 x1 x2 : Value) w, (Instr.index 86 (.agg #[x0, x1, x2]) (.int .i64 0)).run Try.prog w = .ok x0 w := fun _ _ _ _ => by kernel_rfl
  have i1 : ∀ (x0 x1 x2 : Value) w, (Instr.index 86 (.agg #[x0, x1, x2]) (.int .i64 1)).run Try.prog w = .ok x1 w := fun _ _ _ _ => by kernel_rfl
  have i2 : ∀ (x0 x1 x2 : Value) w, (Instr.index 86 (.agg #[x0, x1, x2]) (.int .i64 2)).run Try.prog w = .ok x2 w := fun _ _ _ _ => by kernel_rfl
  have h62 := Lib.hid H62
  have h0 := Lib.hid H0
  have h1 := Lib.hid H1
  have h2 := Lib.hid H2
  have hm := Lib.hid hM
  have he := Lib.hid hend
  clear H62 H0 H1 H2 hM hend
  go_enter Try.func63, Try.ntmps63
  go_wp2_with (go_at_call 62; refine h62.out.mono ?_; rintro e w1 ⟨r, rfl, hr⟩; have k1 := hm.out _ _ hr; have HM := Lib.hid hr; clear hr)
  go_loopw [12] (fun i wr => ∃ k : Nat, k ≤ 3 ∧ i = .int .i64 k ∧ M k wr) (fun i _ => 3 - (intOf i).toNat)
  case atStart => exact ⟨0, by omega, rfl, HM.out⟩
  case round =>
    obtain ⟨k, hk, rfl, hw⟩ := hrel
    have kk := hm.out _ _ hw
    have HW := Lib.hid hw
    clear hw k1 c1
    obtain rfl | rfl | rfl | rfl : k = 0 ∨ k = 1 ∨ k = 2 ∨ k = 3 := by omega
    · go_wp2_with (go_at_call 64; refine (h0.out _ HW.out).mono ?_; rintro e w2 ⟨rfl, hr⟩; have HN := Lib.hid hr; clear hr)
      go_roundw
      case rel => exact ⟨1, by omega, by go_num, HN.out⟩
      case measure => simp [intOf]
    · go_wp2_with (go_at_call 58; refine (h1.out _ HW.out).mono ?_; rintro e w2 ⟨rfl, hr⟩; have HN := Lib.hid hr; clear hr)
      go_roundw
      case rel => exact ⟨2, by omega, by go_num, HN.out⟩
      case measure => simp [intOf]
    · go_wp2_with (go_at_call 64; refine (h2.out _ HW.out).mono ?_; rintro e w2 ⟨rfl, hr⟩; have HN := Lib.hid hr; clear hr)
      go_roundw
      case rel => exact ⟨3, by omega, by go_num, HN.out⟩
      case measure => simp [intOf]
    · obtain ⟨now, n, c, a, bd, q1, q2, q3, q4, q5, q6, q7⟩ := he.out _ HW.out
      have HE := Lib.hid q7
      have b1 : (0 : Int) ≤ (now : Int) := by omega
      have b2 : (now : Int) < 3 := by omega
      have kp : (wr.setCell ⟨hb, 15, none⟩ (.int .i64 n)).drew.cell? ⟨hx, 0, none⟩ = some (.pointer (some ⟨hb, 0, none⟩)) ∧ (wr.setCell ⟨hb, 15, none⟩ (.int .i64 n)).drew.cell? ⟨hb, 11, none⟩ = some (.int .i64 now) ∧ (wr.setCell ⟨hb, 15, none⟩ (.int .i64 n)).drew.cell? ⟨hb, 8 + now, none⟩ = some (.slice a n c) := by
        refine ⟨?_, ?_, ?_⟩
        · show (wr.setCell ⟨hb, 15, none⟩ (.int .i64 n)).cell? _ = _
          rw [World.cell?_setCell_other _ _ _ _ (by simp)]; exact kk
        · show (wr.setCell ⟨hb, 15, none⟩ (.int .i64 n)).cell? _ = _
          rw [World.cell?_setCell_other _ _ _ _ (by simp)]; exact q3
        · show (wr.setCell ⟨hb, 15, none⟩ (.int .i64 n)).cell? _ = _
          rw [World.cell?_setCell_other _ _ _ _ (by intro e; injection e with _ e2; omega)]; exact q4
      have KP := Lib.hid kp
      clear q7 kp
      go_wp2
      go_region_held3 (fun W => W.cell? ⟨hx, 0, none⟩ = some (.pointer (some ⟨hb, 0, none⟩)) ∧ W.cell? ⟨hb, 11, none⟩ = some (.int .i64 now) ∧ W.cell? ⟨hb, 8 + now, none⟩ = some (.slice a n c)) (first | exact KP.out | go_keep) (fail)
      go_end0
      exact ⟨rfl, HE.out _ ⟨rfl, rfl, rfl, rfl⟩⟩
end
end Go.Proofs.Ythjokcjdphempaa

namespace Go.Proofs.Ythjokcjdphempaa
open Go.RowKit Hp Go.Shelf

theorem sum_parts (a : Nat → Nat) (sz : Nat → Nat) : ∀ xs : List Nat, (∀ m ∈ xs, a m < 3) →
    (xs.map sz).sum = ((xs.filter fun m => a m == 0).map sz).sum + ((xs.filter fun m => a m == 1).map sz).sum + ((xs.filter fun m => a m == 2).map sz).sum
  | [], _ => rfl
  | m :: xs, h => by
    have ih := sum_parts a sz xs fun x hx => h x (List.mem_cons_of_mem _ hx)
    have hm := h m (by simp)
    obtain e | e | e : a m = 0 ∨ a m = 1 ∨ a m = 2 := by omega
    all_goals
      simp [e]
      omega

theorem live_le_used {s : HS} {G : Areas} {φ : Nat → Int} {A : AHeap} (hi : InvG s G φ A) : A.live ≤ (s.ar 0).length + (s.ar 1).length + (s.ar 2).length := by
  have hp : ∀ m ∈ A.search, aOf (φ m) < 3 := fun m hm => (hi.rep.atPhi ((mem_search hi.rep.wf).1 hm)).2.1
  have key : ∀ k, k < 3 → ((A.search.filter fun m => aOf (φ m) == k).map fun m => (A.obj m).size).sum ≤ (s.ar k).length := by
    intro k hk
    have hmem : ∀ m ∈ A.search.filter (fun m => aOf (φ m) == k), Hp.Reach A m ∧ aOf (φ m) = k := fun m hm => by
      obtain ⟨h1, h2⟩ := List.mem_filter.1 hm
      exact ⟨(mem_search hi.rep.wf).1 h1, by simpa using h2⟩
    have hsz : ∀ m, Hp.Reach A m → (A.obj m).size = sizeN (headAt s (φ m)) := fun m hm => by
      have h1 := (hi.rep.atPhi hm).1
      obtain ⟨f1, f2, f3⟩ := hi.rep.fits m hm
      unfold headAt
      rw [h1]
      unfold sizeN
      rw [refsN_hdr f1 (by omega), rawsN_hdr f1 (by omega)]
      rfl
    have e1 : ((A.search.filter fun m => aOf (φ m) == k).map fun m => (A.obj m).size) = (((A.search.filter fun m => aOf (φ m) == k).map φ).map fun r => sizeN (headAt s r)) := by
      rw [List.map_map]
      refine List.map_congr_left fun m hm => ?_
      exact hsz m (hmem m hm).1
    rw [e1, sum_locs (hi.rep.ne hk) (fun r => sizeN (headAt s r)), hi.rep.flat k hk]
    · exact wt_le _ _ _
    · refine nodup_map _ ((search_nodup A).filter _) fun a ha b hb e => ?_
      exact hi.rep.inj a b (hmem a ha).1 (hmem b hb).1 e
    · intro r hr
      obtain ⟨m, hm, rfl⟩ := List.mem_map.1 hr
      obtain ⟨hre, ha⟩ := hmem m hm
      obtain ⟨fs, h1, h2, _⟩ := hi.rep.obj m hre
      refine ⟨_, h1, ha, ?_⟩
      rw [← hsz m hre]
      simp [AObj.size, h2]; omega
  have h0 := key 0 (by omega)
  have h1 := key 1 (by omega)
  have h2 := key 2 (by omega)
  have := sum_parts (fun m => aOf (φ m)) (fun m => (A.obj m).size) A.search hp
  unfold AHeap.live
  rw [this]
  omega

/-- A heap within a whole collection, from s on. -/
structure Stage (hb : Nat) (A : AHeap) (L : Lay) (s : HS) (w : World) (lim : Int) (L1 : Lay) (s1 : HS) (W : World) (G1 : Areas) (φ1 : Nat → Int) : Prop where
  rep : HRep W hb L1 s1
  inv : InvG s1 G1 φ1 A
  words : s1.words = s.words
  objs : s1.objs = s.objs
  worst : s1.worst = s.worst
  room : s1.room = s.room
  young : s1.young = s.young
  big : s1.big = s.big
  slen : s1.slots.length = s.slots.length
  copied : s.copied ≤ s1.copied ∧ s1.copied ≤ s.copied + lim
  y : s1.ar 2 = []
  lens : ∀ k, k < 3 → ((s1.ar k).length : Int) + s.copied ≤ (s.ar k).length + s1.copied
  left : Left hb L L1 w W

section
variable {hb : Nat} {A : AHeap} {L : Lay} {s : HS} {w : World} {lim : Int} {L1 : Lay} {s1 : HS} {W : World} {G1 : Areas} {φ1 : Nat → Int}

theorem Minored.stage {c : Nat} (h : Minored hb A L s w W L1 s1 G1 φ1 c) (hy : ((s.ar 2).length : Int) ≤ 65536) (hn : s.now < 2) : Stage hb A L s w 65536 L1 s1 W G1 φ1 := by
  have hs := h.same
  have hm := h.mid hy hn
  have hc := h.copied
  have hle := h.le
  exact ⟨h.rep, h.inv, hs.words, hs.objs, hs.worst, hs.room, hs.young, hs.big, h.slen, by omega, h.young, hm.lens, h.left⟩

theorem Stage.sized (h : Stage hb A L s w lim L1 s1 W G1 φ1) (hz : ∀ k, k < 3 → (s.ar k).length ≤ 50000000000) (hl : lim ≤ 1000000) (hz' : Sized s A) : Sized s1 A :=
  ⟨fun k hk => by have := h.lens k hk; have := hz k hk; have := h.copied; omega, hz'.count, hz'.nslots⟩

theorem Stage.worked {u : Int} {L2 : Lay} {s2 : HS} {W2 : World} {G2 : Areas} {φ2 : Nat → Int} {c : Nat} (h : Stage hb A L s w lim L1 s1 W G1 φ1) (k : Worked hb A u L1 s1 W W2 L2 s2 G2 φ2 c) (hr : s.room ≤ 65536) : Stage hb A L s w (lim + 65536) L2 s2 W2 G2 φ2 := by
  have hs := k.same
  have h1 := h.copied
  have h2 := k.copied
  have h3 := k.sum
  have h4 := h.inv.sum
  have h5 := h.room
  have h6 := k.young
  refine ⟨k.rep, k.inv, hs.words.trans h.words, hs.objs.trans h.objs, hs.worst.trans h.worst, hs.room.trans h.room, hs.young.trans h.young, hs.big.trans h.big, k.slen.trans h.slen, by omega, ?_, fun j hj => by have := h.lens j hj; have := k.lens j hj; omega, h.left.trans k.left⟩
  rw [h.y] at h6
  exact List.eq_nil_of_length_eq_zero h6

theorem Stage.begun {L2 : Lay} {s2 : HS} {W2 : World} {G2 : Areas} (h : Stage hb A L s w lim L1 s1 W G1 φ1) (k : Begun hb A φ1 L1 s1 W W2 L2 s2 G2) : Stage hb A L s w lim L2 s2 W2 G2 φ1 := by
  have hs := k.same
  have h1 := h.copied
  have h2 := k.copied
  have h6 := k.lens 2
  refine ⟨k.rep, k.inv, hs.words.trans h.words, hs.objs.trans h.objs, hs.worst.trans h.worst, hs.room.trans h.room, hs.young.trans h.young, hs.big.trans h.big, k.slen.trans h.slen, by omega, ?_, fun j hj => by have := h.lens j hj; have := k.lens j; omega, h.left.trans k.left⟩
  rw [h.y] at h6
  exact List.eq_nil_of_length_eq_zero h6

/-- What Whole leaves. -/
structure Wholed (hb : Nat) (A : AHeap) (L : Lay) (s : HS) (w : World) (L1 : Lay) (s1 : HS) (W : World) : Prop where
  rep : HRep W hb L1 s1
  inv : ∃ G φ, InvG s1 G φ A
  words : s1.words = s.words
  objs : s1.objs = s.objs
  worst : s1.worst = s.worst
  room : s1.room = s.room
  young : s1.young = s.young
  big : s1.big = s.big
  bound : s1.bound = A.live
  slen : s1.slots.length = s.slots.length
  copied : s.copied ≤ s1.copied ∧ s1.copied ≤ s.copied + 200000
  y : s1.ar 2 = []
  old : (s1.ar 0).length + (s1.ar 1).length = A.live
  left : Left hb L L1 w W

set_option maxHeartbeats 1000000 in
theorem whole_clo {hx : Nat} {G : Areas} {φ : Nat → Int} (hr : HRep w hb L s) (c1 : w.cell? ⟨hx, 0, none⟩ = some (.pointer (some ⟨hb, 0, none⟩))) (n1 : ¬ L.foot hb hx) (hi : InvG s G φ A) (hz : Sized s A) (hlen : ∀ k, k < 3 → (s.ar k).length ≤ 50000000000) (hbig : s.big ≤ 8001) (hwc : s.words + s.copied ≤ 50000000000) :
    Calls Try.prog 63 #[.pointer (some ⟨hx, 0, none⟩)] w fun e w' => e = .returned (.tuple #[]) ∧ ∃ L' s', Wholed hb A L s w L' s' w' := by
  have hn := hi.rep.now
  have hroom1 := hi.room1
  have hroom2 := hi.room2
  have hy2 := hi.young2
  have hyl := hi.ylen
  have hw0 := hi.words0
  have hc0 := hi.copied0
  have hxl := World.block_lt_of_cell? _ _ c1
  refine whole_core (M := fun k W =>
    match k with
    | 0 => ∃ L1 s1 G1 φ1, Stage hb A L s w 65536 L1 s1 W G1 φ1
    | 1 => ∃ L1 s1 G1 φ1, Stage hb A L s w 131072 L1 s1 W G1 φ1 ∧ s1.moves = false ∧ s1.todo = [] ∧ s1.ar (1 - s1.now) = []
    | 2 => ∃ L1 s1 G1 φ1, Stage hb A L s w 131072 L1 s1 W G1 φ1 ∧ s1.moves = true ∧ s1.ar s1.now = [] ∧ todoSum s1 ≤ A.live
    | _ => ∃ L1 s1 G1 φ1, Stage hb A L s w 196608 L1 s1 W G1 φ1 ∧ s1.ar (1 - s1.now) = [] ∧ (s1.ar s1.now).length ≤ A.live) c1 ?_ ?_ ?_ ?_ ?_ ?_
  · refine (minor_any hr hi hz (by omega)).mono ?_
    rintro e w' ⟨r, rfl, L1, s1, G1, φ1, c, rfl, hm⟩
    exact ⟨_, rfl, L1, s1, G1, φ1, hm.stage (by omega) hn⟩
  · intro k W hk
    have hl : ∃ L1, Left hb L L1 w W := by
      match k, hk with
      | 0, ⟨L1, s1, G1, φ1, h⟩ => exact ⟨L1, h.left⟩
      | 1, ⟨L1, s1, G1, φ1, h, _⟩ => exact ⟨L1, h.left⟩
      | 2, ⟨L1, s1, G1, φ1, h, _⟩ => exact ⟨L1, h.left⟩
      | k + 3, ⟨L1, s1, G1, φ1, h, _⟩ => exact ⟨L1, h.left⟩
    obtain ⟨L1, h⟩ := hl
    exact fr_cell h.fr c1 n1
  · rintro W ⟨L1, s1, G1, φ1, h⟩
    have h1 := h.words
    have h2 := h.copied
    refine (finish_any h.rep h.inv (h.sized hlen (by omega) hz) (by rw [h.big]; exact hbig) (by omega)).mono ?_
    rintro e w' ⟨rfl, L2, s2, G2, φ2, c, hw, m1, m2, m3⟩
    have e1 : s2.now = s1.now := hw.same.now
    exact ⟨rfl, L2, s2, G2, φ2, h.worked hw hroom2, m1, m2, by rw [e1]; exact m3⟩
  · rintro W ⟨L1, s1, G1, φ1, h, m1, m2, m3⟩
    refine (began_any h.rep h.inv (h.sized hlen (by omega) hz) m1).mono ?_
    rintro e w' ⟨rfl, L2, s2, G2, hb2⟩
    have hn1 := h.inv.rep.now
    have e1 : s2.now = 1 - s1.now := hb2.same.now
    have h3 := hb2.sum
    refine ⟨rfl, L2, s2, G2, φ1, h.begun hb2, hb2.same.moves, ?_, by omega⟩
    have h4 := hb2.lens s2.now
    rw [e1, m3] at h4
    rw [e1]
    exact List.eq_nil_of_length_eq_zero h4
  · rintro W ⟨L1, s1, G1, φ1, h, m1, m2, m3⟩
    have h1 := h.words
    have h2 := h.copied
    refine (finish_any h.rep h.inv (h.sized hlen (by omega) hz) (by rw [h.big]; exact hbig) (by omega)).mono ?_
    rintro e w' ⟨rfl, L2, s2, G2, φ2, c, hw, q1, q2, q3⟩
    have e1 : s2.now = s1.now := hw.same.now
    have h3 := hw.now
    have h4 := hw.sum
    refine ⟨rfl, L2, s2, G2, φ2, h.worked hw hroom2, by rw [e1]; exact q3, ?_⟩
    rw [m2] at h3
    rw [e1]
    simp at h3
    omega
  · rintro W ⟨L1, s1, G1, φ1, h, m1, m2⟩
    have hn1 := h.inv.rep.now
    have h2 := h.copied
    have hll := h.lens s1.now (by omega)
    have hl0 := hlen s1.now (by omega)
    obtain ⟨a, c, es⟩ := (h.rep.ar s1.now (by omega)).shape
    have hlu := live_le_used h.inv
    have hy := h.y
    have hold : (s1.ar 0).length + (s1.ar 1).length = A.live := by
      rw [hy] at hlu
      obtain e | e : s1.now = 0 ∨ s1.now = 1 := by omega
      · rw [e] at m1 m2
        rw [show (1 : Nat) - 0 = 1 from rfl] at m1
        rw [m1] at hlu ⊢
        simp at hlu ⊢
        omega
      · rw [e] at m1 m2
        rw [show (1 : Nat) - 1 = 0 from rfl] at m1
        rw [m1] at hlu ⊢
        simp at hlu ⊢
        omega
    have hnow : (s1.ar s1.now).length = A.live := by
      obtain e | e : s1.now = 0 ∨ s1.now = 1 := by omega
      · rw [e] at m1 ⊢
        rw [show (1 : Nat) - 0 = 1 from rfl] at m1
        rw [m1] at hold
        simpa using hold
      · rw [e] at m1 ⊢
        rw [show (1 : Nat) - 1 = 0 from rfl] at m1
        rw [m1] at hold
        simpa using hold
    refine ⟨s1.now, (s1.ar s1.now).length, c, a, s1.bound, hn1, by omega, h.rep.c11, by rw [h.rep.area (by omega), es], h.rep.c15, h.rep.froz 15, ?_⟩
    intro W' hE
    rw [hnow] at hE
    have r1 : HRep (W.setCell ⟨hb, 15, none⟩ (.int .i64 A.live)) hb L1 { s1 with bound := A.live } := h.rep.scalar 15 _ rfl (fun i _ => rfl)
    have i1 : InvG { s1 with bound := (A.live : Int) } G1 φ1 A := h.inv.head rfl rfl rfl rfl rfl rfl rfl rfl rfl rfl (Int.le_refl _) rfl
    exact ⟨L1, _, r1.of_heap hE.1, ⟨G1, φ1, i1⟩, h.words, h.objs, h.worst, h.room, h.young, h.big, rfl, h.slen, by show s.copied ≤ s1.copied ∧ s1.copied ≤ _; omega, hy, hold, (h.left.trans (left_setCell W hb L1 (.inl rfl) 15 _)).eqw hE⟩
end
end Go.Proofs.Ythjokcjdphempaa
