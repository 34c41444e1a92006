/- How a heap of the program lies in memory, and the walks through the functions that only read it. -/
import Derived.Test.YthjokcjdphempaaLeaf
namespace Go.Proofs.Ythjokcjdphempaa
open Go.RowKit Hp

def ints (l : List Int) : List Value := l.map (Value.int .i64)

/-- A slice of ints that reads as xs; it may be nil. -/
def IsSl (w : World) (v : Value) (xs : List Int) : Prop :=
  (v = .slice none 0 0 ∧ xs = []) ∨
  ∃ b off cap cs, v = .slice (some ⟨b, off, none⟩) xs.length cap ∧ w.heap[b]? = some (.cells (ints cs).toArray 3 (0, 0)) ∧ off + cap ≤ cs.length ∧ xs.length ≤ cap ∧ cs.length ≤ maxLen ∧
    (cs.drop off).take xs.length = xs

/-- The values of a heap's slices: areas 0, 1, 2; slots; todo. -/
structure Lay where
  v : Nat → Value

def Lay.foot (L : Lay) (hb k : Nat) : Prop := k = hb ∨ ∃ i, i < 5 ∧ (L.v i).ownBlock = some k

/-- The five lists of a heap: areas, slots, todo. -/
def _root_.Go.Proofs.Ythjokcjdphempaa.Hp.HS.sl (s : HS) (i : Nat) : List Int := if i = 3 then s.slots else if i = 4 then s.todo else s.ar i
def _root_.Go.Proofs.Ythjokcjdphempaa.Hp.HS.setSl (s : HS) (i : Nat) (l : List Int) : HS := if i = 3 then { s with slots := l } else if i = 4 then { s with todo := l } else s.setAr i l

/-- The cell of the heap in which a list's slice stands. -/
def cellOf (i : Nat) : Nat := if i < 3 then 8 + i else 9 + i

def headCells (L : Lay) (s : HS) : Array Value :=
  #[.int .i64 s.objs, .int .i64 s.words, .int .i64 s.copied, .int .i64 s.worst, .int .i64 s.minors, .int .i64 s.majors, .int .i64 s.room, .int .i64 s.young,
    L.v 0, L.v 1, L.v 2, .int .i64 s.now, L.v 3, L.v 4, .bool s.moves, .int .i64 s.bound]

structure HRep (w : World) (hb : Nat) (L : Lay) (s : HS) : Prop where
  blk : w.heap[hb]? = some (.cells (headCells L s) 60 (0, 0))
  sl : ∀ i, i < 5 → IsSl w (L.v i) (s.sl i)
  off : ∀ i, i < 5 → (L.v i).ownBlock ≠ some hb
  apart : ∀ i j, i < 5 → j < 5 → i ≠ j → (L.v i).ownBlock = none ∨ (L.v i).ownBlock ≠ (L.v j).ownBlock

theorem HRep.ar {w : World} {hb : Nat} {L : Lay} {s : HS} (h : HRep w hb L s) (k : Nat) (hk : k < 3) : IsSl w (L.v k) (s.ar k) := by
  have := h.sl k (by omega)
  unfold HS.sl at this
  rw [if_neg (by omega), if_neg (by omega)] at this
  exact this
theorem HRep.slots {w : World} {hb : Nat} {L : Lay} {s : HS} (h : HRep w hb L s) : IsSl w (L.v 3) s.slots := h.sl 3 (by omega)
theorem HRep.todo {w : World} {hb : Nat} {L : Lay} {s : HS} (h : HRep w hb L s) : IsSl w (L.v 4) s.todo := h.sl 4 (by omega)

/-- A step that turns blocks of B alone, and lays new ones. -/
structure Fr (B : Nat → Prop) (w w' : World) : Prop where
  os : w'.os = w.os
  tape : w'.tape = w.tape
  output : w'.output = w.output
  size : w.heap.size ≤ w'.heap.size
  block : ∀ k, k < w.heap.size → ¬ B k → w'.heap[k]? = w.heap[k]?

theorem Fr.refl (B : Nat → Prop) (w : World) : Fr B w w := ⟨rfl, rfl, rfl, Nat.le_refl _, fun _ _ _ => rfl⟩

theorem HRep.cell {w : World} {hb : Nat} {L : Lay} {s : HS} (h : HRep w hb L s) {k : Nat} {v : Value} (hv : (headCells L s)[k]? = some v) : w.cell? ⟨hb, k, none⟩ = some v := by
  simp only [World.cell?, h.blk, Option.isSome_none, Bool.false_eq_true, if_false]
  exact hv

theorem HRep.area {w : World} {hb : Nat} {L : Lay} {s : HS} (h : HRep w hb L s) {k : Nat} (hk : k < 3) : w.cell? ⟨hb, 8 + k, none⟩ = some (L.v k) := by
  apply h.cell
  obtain rfl | rfl | rfl : k = 0 ∨ k = 1 ∨ k = 2 := by omega
  all_goals rfl

theorem IsSl.shape {w : World} {v : Value} {xs : List Int} (h : IsSl w v xs) : ∃ a cap, v = .slice a xs.length cap := by
  rcases h with ⟨rfl, rfl⟩ | ⟨b, off, cap, cs, rfl, _⟩
  · exact ⟨none, 0, rfl⟩
  · exact ⟨_, cap, rfl⟩

theorem IsSl.get {w : World} {v : Value} {xs : List Int} (h : IsSl w v xs) {i : Nat} (hi : i < xs.length) :
    ∃ b off cap, v = .slice (some ⟨b, off, none⟩) xs.length cap ∧ xs.length ≤ cap ∧ (∀ j, j < xs.length → w.cell? ⟨b, off + j, none⟩ = some (.int .i64 (xs.getD j 0))) ∧ w.frozen? ⟨b, 0, none⟩ = false := by
  rcases h with ⟨rfl, rfl⟩ | ⟨b, off, cap, cs, rfl, hb, h1, h2, h3, h4⟩
  · simp at hi
  · refine ⟨b, off, cap, rfl, h2, ?_, ?_⟩
    · intro j hj
      simp only [World.cell?, hb, Option.isSome_none, Bool.false_eq_true, if_false]
      have : xs.getD j 0 = cs.getD (off + j) 0 := by
        conv => lhs; rw [← h4]
        rw [List.getD_eq_getElem?_getD, List.getD_eq_getElem?_getD, List.getElem?_take, if_pos hj, List.getElem?_drop]
      rw [this]
      unfold ints
      rw [List.getElem?_toArray, List.getElem?_map, List.getD_eq_getElem?_getD, List.getElem?_eq_getElem (by omega)]
      rfl
    · simp [World.frozen?, hb]

/-- What a walk wants of a place of an area. -/
theorem HRep.word {w : World} {hb : Nat} {L : Lay} {s : HS} (h : HRep w hb L s) {k p : Nat} (hk : k < 3) (hp : p < (s.ar k).length) :
    ∃ b off cap, w.cell? ⟨hb, 8 + k, none⟩ = some (.slice (some ⟨b, off, none⟩) (s.ar k).length cap) ∧ (s.ar k).length ≤ cap ∧ w.cell? ⟨b, off + p, none⟩ = some (.int .i64 ((s.ar k).getD p 0)) ∧
      L.v k = .slice (some ⟨b, off, none⟩) (s.ar k).length cap := by
  obtain ⟨b, off, cap, e, h1, h2, _⟩ := (h.ar k hk).get hp
  exact ⟨b, off, cap, by rw [h.area hk, e], h1, h2 p hp, e⟩

/-- The areas are small. -/
structure Small (s : HS) : Prop where
  len : ∀ k, k < 3 → (s.ar k).length ≤ 400000000000

theorem ref_small {s : HS} (hsm : Small s) {t : Int} (h1 : 1 ≤ t) (h2 : aOf t < 3) (h3 : pOf t < (s.ar (aOf t)).length) : t ≤ 4611686018427387904 := by
  have := hsm.len _ h2
  have := enc_of h1
  unfold enc at this
  omega

set_option maxHeartbeats 800000 in
/-- **newest**: where an object is now. -/
theorem newest_any {hb : Nat} {L : Lay} {s : HS} {w : World} (hr : HRep w hb L s) {r : Int} (hg : GoodRef s r) (hfit : r ≤ 4611686018427387904) (hsm : Small s) :
    Calls Try.prog 44 #[.pointer (some ⟨hb, 0, none⟩), .int .i64 r] w fun e w' => e = .returned (.int .i64 (newest s r)) ∧ w = w' := by
  go_enter Try.func44, Try.ntmps44
  go_wp2
  go_loop [1] (fun t => ∃ x : Int, t = .int .i64 x ∧ (x = r ∨ (x = newest s r ∧ 1 ≤ x ∧ aOf x < 3 ∧ pOf x < (s.ar (aOf x)).length ∧ 0 ≤ (s.ar (aOf x)).getD (pOf x) 0 ∧ x ≤ 4611686018427387904 ∧ x ≠ r)))
    (fun t => if intOf t = r then 1 else 0)
  case atStart => exact ⟨r, rfl, .inl rfl⟩
  case round =>
    obtain ⟨x, rfl, hx⟩ := hrel
    by_cases h0 : x = 0
    · have hf : newest s r = 0 := by
        rcases hx with rfl | ⟨_, h1, _⟩
        · subst h0; simp [newest]
        · omega
      subst h0
      have Hf := Lib.hid hf
      clear hf hx hg hr hsm
      go_wp2
      go_ret
      exact ⟨ret_int Hf.out.symm, rfl⟩
    · have hv : 1 ≤ x ∧ aOf x < 3 ∧ pOf x < (s.ar (aOf x)).length ∧ x ≤ 4611686018427387904 := by
        rcases hx with rfl | ⟨_, h1, h2, h3, _, h4, _⟩
        · rcases hg with h | ⟨h1, h2, h3, _⟩
          · exact absurd h h0
          · exact ⟨h1, h2, h3, hfit⟩
        · exact ⟨h1, h2, h3, h4⟩
      obtain ⟨v1, v2, v3, v4⟩ := hv
      obtain ⟨b, off, cap, c1, c2, c3, _⟩ := hr.word v2 v3
      have hl := hsm.len _ v2
      obtain ⟨y, hy⟩ : ∃ y, y = (s.ar (aOf x)).getD (pOf x) 0 := ⟨_, rfl⟩
      have hw1 : y < 0 → -4611686018427387904 ≤ y := by
        intro hneg
        rcases hx with rfl | ⟨_, h1, h2, h3, h4, _⟩
        · rcases hg with h | ⟨_, _, _, h⟩
          · exact absurd h h0
          · obtain ⟨t, e1, e2, e3, e4, _⟩ := h (by rw [← hy]; exact hneg)
            have := ref_small hsm e2 e3 e4
            rw [← hy] at e1
            omega
        · rw [← hy] at h4; omega
      rw [← hy] at c3
      have Hw := Lib.hid hw1
      clear hw1
      have hnew : newest s x = if 0 ≤ y then x else -y := by unfold newest; rw [if_neg h0, ← hy]
      have Hx := Lib.hid hx
      have Hg := Lib.hid hg
      have Hr := Lib.hid hr
      have Hy := Lib.hid hy
      have Hn := Lib.hid hnew
      have Hsm := Lib.hid hsm
      clear hx hg hr hy hnew hsm
      by_cases hpos : 0 ≤ y
      · go_wp2_with (go_at_call 79; refine (areaOf_any _ _ v1 v4).mono ?_; rintro e w' ⟨rfl, rfl⟩)
        go_ret
        refine ⟨ret_int ?_, rfl⟩
        show x = newest s r
        rcases Hx.out with rfl | ⟨h, _⟩
        · rw [Hn.out, if_pos hpos]
        · exact h
      · have hxr : x = r := by
          rcases Hx.out with h | ⟨_, _, _, _, h, _⟩
          · exact h
          · rw [← Hy.out] at h; exact absurd h hpos
        have Hxr := Lib.hid hxr
        have hw1 := Hw.out (by omega)
        clear hxr
        go_wp2_with (go_at_call 79; refine (areaOf_any _ _ v1 v4).mono ?_; rintro e w' ⟨rfl, rfl⟩)
        have hxr := Hxr.out
        subst hxr
        have hy := Hy.out
        have hfin := Hn.out
        rw [if_neg (by omega)] at hfin
        have hg := Hg.out
        go_round
        case rel =>
          refine ⟨-y, rfl, .inr ?_⟩
          rcases hg with h | ⟨_, _, _, h⟩
          · omega
          · obtain ⟨t, e1, e2, e3, e4, e5⟩ := h (by rw [← hy]; omega)
            rw [← hy] at e1
            subst e1
            refine ⟨hfin.symm, e2, e3, e4, e5, by omega, ?_⟩
            intro e
            rw [e, ← hy] at e5
            omega
        case measure =>
          have hne : ¬ (-y = x) := by
            rcases hg with h | ⟨_, _, _, h⟩
            · omega
            · obtain ⟨t, e1, e2, e3, e4, e5⟩ := h (by rw [← hy]; omega)
              rw [← hy] at e1
              subst e1
              intro e
              rw [e, ← hy] at e5
              omega
          simp [intOf, hne]

/-- An object stands at n: a place that is no stale one. -/
structure AtObj (s : HS) (n : Int) : Prop where
  pos : 1 ≤ n
  fit : n ≤ 4611686018427387904
  area : aOf n < 3
  head : 0 ≤ headAt s n
  size : pOf n + sizeN (headAt s n) ≤ (s.ar (aOf n)).length
  top : headAt s n ≤ 4611686018427387904

/-- The words of the object at n, as a slice of its area. -/
def objSl (v : Value) (n : Int) (sz : Nat) : Value :=
  match v with
  | .slice (some a) _ _ => .slice (some ⟨a.block, a.off + pOf n, none⟩) sz sz
  | _ => undef

set_option maxHeartbeats 800000 in
/-- **words**: the words of an object, where it is now. -/
theorem words_any {hb : Nat} {L : Lay} {s : HS} {w : World} (hr : HRep w hb L s) {r : Int} (hg : GoodRef s r) (hfit : r ≤ 4611686018427387904) (hsm : Small s) {n : Int} (hn : newest s r = n) (hat : AtObj s n) :
    Calls Try.prog 45 #[.pointer (some ⟨hb, 0, none⟩), .int .i64 r] w fun e w' => e = .returned (objSl (L.v (aOf n)) n (sizeN (headAt s n))) ∧ w = w' := by
  have HN := newest_any (w := w) hr hg hfit hsm
  rw [hn] at HN
  obtain ⟨v1, v4, v2, hpos, hsz, hw⟩ := hat
  have hs1 : 1 ≤ sizeN (headAt s n) := by unfold sizeN; omega
  have v3 : pOf n < (s.ar (aOf n)).length := by omega
  obtain ⟨b, off, cap, c1, c2, c3, c4⟩ := hr.word v2 v3
  have hl := hsm.len _ v2
  have hy : (s.ar (aOf n)).getD (pOf n) 0 = headAt s n := rfl
  rw [hy] at c3
  rw [c4]
  obtain ⟨y, hyy⟩ : ∃ y, y = headAt s n := ⟨_, rfl⟩
  rw [← hyy] at c3 hw hsz hs1 hpos ⊢
  obtain ⟨z, hz⟩ : ∃ z, z = sizeN y := ⟨_, rfl⟩
  obtain ⟨a, ha⟩ : ∃ a, a = aOf n := ⟨_, rfl⟩
  obtain ⟨p, hp⟩ : ∃ p, p = pOf n := ⟨_, rfl⟩
  obtain ⟨len, hlen⟩ : ∃ l, l = (s.ar (aOf n)).length := ⟨_, rfl⟩
  have HA := areaOf_any n w v1 v4
  have HS := sizeOf_any y w hpos hw
  simp only [objSl]
  rw [← hz] at hsz hs1 HS ⊢
  rw [← hlen, ← hp] at hsz
  rw [← hlen, ← hp] at v3
  rw [← hlen] at hl c1 c2
  rw [← ha] at c1 v2 HA
  rw [← hp] at c3 HA ⊢
  clear hr hsm hg hyy hz ha hp hlen hn c4
  have HN' := Lib.hid HN
  have HA' := Lib.hid HA
  have HS' := Lib.hid HS
  clear HN HA HS
  go_enter Try.func45, Try.ntmps45
  go_wp2_with (first | (go_at_call 44; refine (HN'.out).mono ?_; rintro e w' ⟨rfl, rfl⟩) | (go_at_call 79; refine (HA'.out).mono ?_; rintro e w' ⟨rfl, rfl⟩) | (go_at_call 80; refine (HS'.out).mono ?_; rintro e w' ⟨rfl, rfl⟩))
  go_ret
  exact ⟨by
    show Ending.returned (.slice (some ⟨b, off + p, none⟩) (p + z - p) (p + z - p)) = _
    rw [Nat.add_sub_cancel_left], rfl⟩

/-- The slot at i. -/
theorem HRep.slot {w : World} {hb : Nat} {L : Lay} {s : HS} (h : HRep w hb L s) {i : Nat} (hi : i < s.slots.length) :
    ∃ b off cap, w.cell? ⟨hb, 12, none⟩ = some (.slice (some ⟨b, off, none⟩) s.slots.length cap) ∧ s.slots.length ≤ cap ∧ w.cell? ⟨b, off + i, none⟩ = some (.int .i64 (s.slots.getD i 0)) ∧
      L.v 3 = .slice (some ⟨b, off, none⟩) s.slots.length cap ∧ w.frozen? ⟨b, off + i, none⟩ = false := by
  obtain ⟨b, off, cap, e, h1, h2, h3⟩ := h.slots.get hi
  refine ⟨b, off, cap, ?_, h1, h2 i hi, e, ?_⟩
  · rw [← e]; exact h.cell rfl
  · rcases h.slots with ⟨e', hz⟩ | ⟨b', off', cap', cs, e', hb', _⟩
    · rw [hz] at hi; simp at hi
    · rw [e'] at e; cases e; simp [World.frozen?, hb']

theorem HRep.slotsLen {w : World} {hb : Nat} {L : Lay} {s : HS} (h : HRep w hb L s) : ∃ a cap, w.cell? ⟨hb, 12, none⟩ = some (.slice a s.slots.length cap) ∧ L.v 3 = .slice a s.slots.length cap := by
  obtain ⟨a, cap, e⟩ := h.slots.shape
  exact ⟨a, cap, by rw [← e]; exact h.cell rfl, e⟩

/-- All numbers are those of slots. -/
def inSlots (s : HS) (xs : List Int) : Bool := xs.all fun k => decide (0 ≤ k) && decide (k < s.slots.length)

set_option maxHeartbeats 800000 in
/-- **there**: slots exist, or a panic. -/
theorem there_any {hb : Nat} {L : Lay} {s : HS} {w : World} (hr : HRep w hb L s) {v : Value} {xs : List Int} (hx : IsSl w v xs) (hxl : xs.length ≤ 1000) (_hsl : s.slots.length ≤ 1000000000000) :
    Calls Try.prog 50 #[.pointer (some ⟨hb, 0, none⟩), v] w fun e w' => w = w' ∧ ((inSlots s xs = true ∧ e = .returned (.tuple #[])) ∨ (inSlots s xs = false ∧ e = .panicked (trouble 1))) := by
  obtain ⟨a, cap, c1, _⟩ := hr.slotsLen
  obtain ⟨va, vc, hv⟩ := hx.shape
  obtain ⟨n, hn⟩ : ∃ n, n = s.slots.length := ⟨_, rfl⟩
  rw [← hn] at c1
  have Hn := Lib.hid hn
  have Hr := Lib.hid hr
  have Hx := Lib.hid hx
  clear hn hr hx
  subst hv
  go_enter Try.func50, Try.ntmps50
  go_wp2
  go_loop [8] (fun t => ∃ i : Nat, t = .int .i64 i ∧ i ≤ xs.length ∧ inSlots s (xs.take i) = true) (fun t => xs.length - (intOf t).toNat)
  case atStart => exact ⟨0, rfl, Nat.zero_le _, rfl⟩
  case round =>
    obtain ⟨i, rfl, hi, hall⟩ := hrel
    have Hall := Lib.hid hall
    clear hall
    by_cases hlt : i < xs.length
    · obtain ⟨b, off, cp, e, d1, d2, _⟩ := Hx.out.get hlt
      cases e
      have d2' := d2 i hlt
      obtain ⟨k, hk⟩ : ∃ k, k = xs.getD i 0 := ⟨_, rfl⟩
      rw [← hk] at d2'
      have Hk := Lib.hid hk
      clear hk d2
      have htake : xs.take (i + 1) = xs.take i ++ [k] := by
        rw [Hk.out, List.take_add_one, List.getD_eq_getElem?_getD, List.getElem?_eq_getElem hlt]; rfl
      have hstep : inSlots s (xs.take (i + 1)) = (decide (0 ≤ k) && decide (k < n)) := by
        rw [htake, Hn.out]
        unfold inSlots
        rw [List.all_append]
        have := Hall.out
        unfold inSlots at this
        rw [this]; simp
      have hno : inSlots s (xs.take (i + 1)) = false → inSlots s xs = false := by
        intro h
        unfold inSlots at h ⊢
        rw [← List.take_append_drop (i + 1) xs, List.all_append, h]; rfl
      have Hstep := Lib.hid hstep
      have Hno := Lib.hid hno
      clear hstep htake hno
      by_cases hk0 : 0 ≤ k
      · by_cases hkn : k < n
        · go_wp2_with (go_at_call 51; refine (fail_yes _ _).mono ?_; rintro e w' ⟨rfl, rfl⟩)
          go_round
          case rel => exact ⟨i + 1, by go_num, by omega, by rw [Hstep.out]; simp [hk0, hkn]⟩
          case measure => simp [intOf]; omega
        · go_wp2_with (go_at_call 51; refine (fail_no _ _).mono ?_; rintro e w' ⟨rfl, rfl⟩)
          exact ⟨rfl, rfl, .inr ⟨Hno.out (by rw [Hstep.out]; simp; omega), rfl⟩⟩
      · go_wp2_with (go_at_call 51; refine (fail_no _ _).mono ?_; rintro e w' ⟨rfl, rfl⟩)
        exact ⟨rfl, rfl, .inr ⟨Hno.out (by rw [Hstep.out]; simp; omega), rfl⟩⟩
    · go_wp2
      go_end0
      refine ⟨rfl, .inl ⟨?_, rfl⟩⟩
      have := Hall.out
      rw [List.take_of_length_le (by omega)] at this
      exact this

set_option maxHeartbeats 800000 in
/-- **object**, of an empty slot: a panic. -/
theorem object_none {hb : Nat} {L : Lay} {s : HS} {w : World} (hr : HRep w hb L s) {i : Nat} (hi : i < s.slots.length) (hx : s.slots.getD i 0 = 0) :
    Calls Try.prog 55 #[.pointer (some ⟨hb, 0, none⟩), .int .i64 i] w fun e w' => e = .panicked (trouble 5) ∧ w = w' := by
  obtain ⟨b, off, cap, c1, c2, c3, _, _⟩ := hr.slot hi
  rw [hx] at c3
  obtain ⟨n, hn⟩ : ∃ n, n = s.slots.length := ⟨_, rfl⟩
  rw [← hn] at c1 c2 hi
  clear hn hr hx
  go_enter Try.func55, Try.ntmps55
  go_wp2_with (go_at_call 51; refine (fail_no _ _).mono ?_; rintro e w' ⟨rfl, rfl⟩)
  exact ⟨rfl, rfl, rfl⟩

set_option maxHeartbeats 800000 in
/-- **object**: the words of the object of a slot. -/
theorem object_some {hb : Nat} {L : Lay} {s : HS} {w : World} (hr : HRep w hb L s) {i : Nat} (hi : i < s.slots.length) (hx : s.slots.getD i 0 ≠ 0) (hg : GoodRef s (s.slots.getD i 0)) (hfit : s.slots.getD i 0 ≤ 4611686018427387904) (hsm : Small s)
    {n : Int} (hn : newest s (s.slots.getD i 0) = n) (hat : AtObj s n) :
    Calls Try.prog 55 #[.pointer (some ⟨hb, 0, none⟩), .int .i64 i] w fun e w' => e = .returned (objSl (L.v (aOf n)) n (sizeN (headAt s n))) ∧ w = w' := by
  have HW := words_any (w := w) hr hg hfit hsm hn hat
  obtain ⟨b, off, cap, c1, c2, c3, _, _⟩ := hr.slot hi
  obtain ⟨x, hxx⟩ : ∃ x, x = s.slots.getD i 0 := ⟨_, rfl⟩
  rw [← hxx] at c3 HW hx
  obtain ⟨l, hl⟩ : ∃ n, n = s.slots.length := ⟨_, rfl⟩
  rw [← hl] at c1 c2 hi
  have hne : (x != 0) = true := by simpa using hx
  generalize objSl (L.v (aOf n)) n (sizeN (headAt s n)) = o at HW ⊢
  clear hl hr hxx hg hfit hsm hn hat hx
  have HW' := Lib.hid HW
  clear HW
  go_enter Try.func55, Try.ntmps55
  go_wp2_with (first | (go_at_call 51; refine (fail_yes _ _).mono ?_; rintro e w' ⟨rfl, rfl⟩) | (go_at_call 45; refine (HW'.out).mono ?_; rintro e w' ⟨rfl, rfl⟩))
  go_ret
  exact ⟨rfl, rfl⟩

set_option maxHeartbeats 800000 in
/-- **raw**: the index of a word of an object. -/
theorem raw_yes {w : World} {b off sz cap : Nat} {x k : Int} (hc : w.cell? ⟨b, off, none⟩ = some (.int .i64 x)) (h0 : 0 < sz) (_hcap : sz ≤ cap) (hx : 0 ≤ x) (hx2 : x ≤ 4611686018427387904) (hk : 0 ≤ k) (hk2 : k < rawsN x) :
    Calls Try.prog 69 #[.slice (some ⟨b, off, none⟩) sz cap, .int .i64 k] w fun e w' => e = .returned (.int .i64 (1 + refsN x + k)) ∧ w = w' := by
  have H1 := Lib.hid (rawsOf_any x w hx hx2)
  have H2 := Lib.hid (refsOf_any x w hx hx2)
  have b1 : (refsN x : Int) < 65536 := by unfold refsN; omega
  have b2 : (rawsN x : Int) < 4611686018427387904 := by unfold rawsN; omega
  go_enter Try.func69, Try.ntmps69
  go_wp2_with (first | (go_at_call 51; refine (fail_yes _ _).mono ?_; rintro e w' ⟨rfl, rfl⟩) | (go_at_call 56; refine (H1.out).mono ?_; rintro e w' ⟨rfl, rfl⟩) | (go_at_call 46; refine (H2.out).mono ?_; rintro e w' ⟨rfl, rfl⟩))
  go_ret
  exact ⟨rfl, rfl⟩

set_option maxHeartbeats 800000 in
/-- **raw**, no such word: a panic. -/
theorem raw_no {w : World} {b off sz cap : Nat} {x k : Int} (hc : w.cell? ⟨b, off, none⟩ = some (.int .i64 x)) (h0 : 0 < sz) (_hcap : sz ≤ cap) (hx : 0 ≤ x) (hx2 : x ≤ 4611686018427387904) (hk : k < 0 ∨ rawsN x ≤ k) :
    Calls Try.prog 69 #[.slice (some ⟨b, off, none⟩) sz cap, .int .i64 k] w fun e w' => e = .panicked (trouble 1) ∧ w = w' := by
  have H1 := Lib.hid (rawsOf_any x w hx hx2)
  rcases Int.lt_or_le k 0 with h | h
  · clear hk
    go_enter Try.func69, Try.ntmps69
    go_wp2_with (first | (go_at_call 51; refine (fail_no _ _).mono ?_; rintro e w' ⟨rfl, rfl⟩) | (go_at_call 56; refine (H1.out).mono ?_; rintro e w' ⟨rfl, rfl⟩))
    exact ⟨rfl, rfl, rfl⟩
  · have hk' : decide (k < (rawsN x : Int)) = false := by simp; omega
    clear hk
    go_enter Try.func69, Try.ntmps69
    go_wp2_with (first | (go_at_call 51; refine (fail_no _ _).mono ?_; rintro e w' ⟨rfl, rfl⟩) | (go_at_call 56; refine (H1.out).mono ?_; rintro e w' ⟨rfl, rfl⟩))
    exact ⟨rfl, rfl, rfl⟩
end Go.Proofs.Ythjokcjdphempaa
