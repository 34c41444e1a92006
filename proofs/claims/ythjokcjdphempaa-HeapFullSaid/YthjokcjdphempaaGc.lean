/- Plain mathematics of layer 29: the state of the program's heap, and what ties it to the abstract heap. No program is in sight here. -/
import Derived.Test.YthjokcjdphempaaAbs
import Derived.Test.YthjokcjdphempaaMem
namespace Go.Proofs.Ythjokcjdphempaa.Hp

/-- What the fields of a heap of the program hold, slices as lists. -/
structure HS where
  objs : Int
  words : Int
  copied : Int
  worst : Int
  minors : Int
  majors : Int
  room : Int
  young : Int
  a0 : List Int
  a1 : List Int
  a2 : List Int
  now : Nat
  slots : List Int
  todo : List Int
  moves : Bool
  bound : Int
  /-- no object is larger; no field of the program -/
  big : Nat

def HS.ar (s : HS) (k : Nat) : List Int := if k = 0 then s.a0 else if k = 1 then s.a1 else s.a2

def HS.setAr (s : HS) (k : Nat) (l : List Int) : HS := if k = 0 then { s with a0 := l } else if k = 1 then { s with a1 := l } else { s with a2 := l }

def enc (a p : Nat) : Int := 4 * (p : Int) + a + 1
def aOf (r : Int) : Nat := ((r - 1) % 4).toNat
def pOf (r : Int) : Nat := ((r - 1) / 4).toNat

theorem aOf_enc {a : Nat} (p : Nat) (h : a < 4) : aOf (enc a p) = a := by unfold aOf enc; omega
theorem pOf_enc {a : Nat} (p : Nat) (h : a < 4) : pOf (enc a p) = p := by unfold pOf enc; omega
theorem enc_of {r : Int} (h : 1 ≤ r) : enc (aOf r) (pOf r) = r := by unfold enc aOf pOf; omega
theorem aOf_lt (r : Int) : aOf r < 4 := by unfold aOf; omega
theorem enc_pos (a p : Nat) : 1 ≤ enc a p := by unfold enc; omega

def hdr (t r w : Nat) : Int := (t : Int) + (r : Int) * 65536 + (w : Int) * 4294967296
def tagN (x : Int) : Nat := (x % 65536).toNat
def refsN (x : Int) : Nat := (x / 65536 % 65536).toNat
def rawsN (x : Int) : Nat := (x / 4294967296).toNat
def sizeN (x : Int) : Nat := 1 + refsN x + rawsN x

theorem hdr_nonneg (t r w : Nat) : 0 ≤ hdr t r w := by unfold hdr; omega
theorem tagN_hdr {t r w : Nat} (h : t < 65536) : tagN (hdr t r w) = t := by unfold tagN hdr; omega
theorem refsN_hdr {t r w : Nat} (h : t < 65536) (hr : r < 65536) : refsN (hdr t r w) = r := by unfold refsN hdr; omega
theorem rawsN_hdr {t r w : Nat} (h : t < 65536) (hr : r < 65536) : rawsN (hdr t r w) = w := by unfold rawsN hdr; omega

theorem ar_setAr_same (s : HS) {k : Nat} (l : List Int) (hk : k < 3) : (s.setAr k l).ar k = l := by
  unfold HS.setAr HS.ar
  split
  · rename_i h; subst h; simp
  · split
    · rename_i h; subst h; simp
    · rename_i h0 h1; simp
theorem ar_setAr_other (s : HS) {k j : Nat} (l : List Int) (hk : k < 3) (hj : j < 3) (h : j ≠ k) : (s.setAr k l).ar j = s.ar j := by
  unfold HS.setAr HS.ar
  obtain rfl | rfl | rfl : k = 0 ∨ k = 1 ∨ k = 2 := by omega
  all_goals obtain rfl | rfl | rfl : j = 0 ∨ j = 1 ∨ j = 2 := by omega
  all_goals first | (exact absurd rfl h) | simp

/-- The areas as lists of objects. -/
abbrev Areas := Nat → List (List Int)

def upd (G : Areas) (k : Nat) (v : List (List Int)) : Areas := fun i => if i = k then v else G i
theorem upd_same (G : Areas) (k : Nat) (v : List (List Int)) : upd G k v k = v := by simp [upd]
theorem upd_other (G : Areas) {k i : Nat} (v : List (List Int)) (h : i ≠ k) : upd G k v i = G i := by simp [upd, h]

/-- The object with these words stands at the place of a reference. -/
def Loc (G : Areas) (r : Int) (o : List Int) : Prop := 1 ≤ r ∧ aOf r < 3 ∧ HasObj (G (aOf r)) (pOf r) o

/-- The first word of an object. -/
def hd (o : List Int) : Int := o.headD 0

/-- An object that was not copied has the size that its first word says. -/
def ObjWf (big : Nat) (o : List Int) : Prop := o ≠ [] ∧ o.length ≤ big ∧ (0 ≤ hd o → o.length = sizeN (hd o))

def phi (φ : Nat → Int) : Nat → Int
  | 0 => 0
  | m + 1 => φ m

/-- A number x stands for the abstract reference n: it is where the object is now, or where it was copied from. -/
def RefOk (G : Areas) (φ : Nat → Int) (now : Nat) (x : Int) (n : Nat) : Prop :=
  x = phi φ n ∨ ∃ m o, n = m + 1 ∧ Loc G x o ∧ hd o = - φ m ∧ 1 ≤ φ m ∧ aOf (φ m) = now

/-- The places of references: slots, and references of objects. -/
inductive Ptr where
  | slot (i : Nat)
  | field (m k : Nat)

/-- The state s, with its areas cut into objects G, and its objects at φ, holds the abstract heap A; the references at D are up to date. -/
structure Rep (D : Ptr → Prop) (s : HS) (G : Areas) (φ : Nat → Int) (A : AHeap) : Prop where
  wf : A.Wf
  now : s.now < 2
  flat : ∀ k, k < 3 → s.ar k = (G k).flatten
  objs : ∀ k, k < 3 → ∀ o ∈ G k, ObjWf s.big o
  slen : s.slots.length = A.slots.length
  slot : ∀ i x n, s.slots[i]? = some x → A.slots[i]? = some n → RefOk G φ s.now x n ∧ (D (.slot i) → x = phi φ n)
  obj : ∀ m, Reach A m → ∃ fs, Loc G (φ m) (hdr (A.obj m).tag (A.obj m).refs.length (A.obj m).raws.length :: (fs ++ (A.obj m).raws)) ∧ fs.length = (A.obj m).refs.length ∧
    ∀ k x n, fs[k]? = some x → (A.obj m).refs[k]? = some n → RefOk G φ s.now x n ∧ (D (.field m k) → x = phi φ n)
  inj : ∀ m m', Reach A m → Reach A m' → φ m = φ m' → m = m'
  fits : ∀ m, Reach A m → (A.obj m).tag < 65536 ∧ (A.obj m).refs.length ≤ 4000 ∧ (A.obj m).raws.length ≤ 4000

theorem Rep.ne {D : Ptr → Prop} {s : HS} {G : Areas} {φ : Nat → Int} {A : AHeap} (h : Rep D s G φ A) {k : Nat} (hk : k < 3) : NE (G k) := fun o ho => (h.objs k hk o ho).1

theorem Rep.mono {D D' : Ptr → Prop} {s : HS} {G : Areas} {φ : Nat → Int} {A : AHeap} (h : Rep D s G φ A) (hd : ∀ p, D' p → D p) : Rep D' s G φ A :=
  { h with
    slot := fun i x n hx hn => ⟨(h.slot i x n hx hn).1, fun hp => (h.slot i x n hx hn).2 (hd _ hp)⟩
    obj := fun m hm => by
      obtain ⟨fs, h1, h2, h3⟩ := h.obj m hm
      exact ⟨fs, h1, h2, fun k x n hx hn => ⟨(h3 k x n hx hn).1, fun hp => (h3 k x n hx hn).2 (hd _ hp)⟩⟩ }

theorem Rep.pos {D : Ptr → Prop} {s : HS} {G : Areas} {φ : Nat → Int} {A : AHeap} (h : Rep D s G φ A) {m : Nat} (hm : Reach A m) : 1 ≤ φ m := by
  obtain ⟨fs, h1, _⟩ := h.obj m hm
  exact h1.1

/-- The word at an object's place is its first one. -/
theorem Loc.first {G : Areas} {r : Int} {o : List Int} (h : Loc G r o) (hne : o ≠ []) : ((G (aOf r)).flatten).getD (pOf r) 0 = hd o := by
  obtain ⟨_, _, h⟩ := h
  have hp : 0 < o.length := List.length_pos_iff.2 hne
  have := h.get hp
  rw [Nat.add_zero] at this
  rw [List.getD_eq_getElem?_getD, this]
  cases o with
  | nil => exact absurd rfl hne
  | cons x o => simp [hd]

/-- Where the object of a reference is now. -/
def newest (s : HS) (r : Int) : Int :=
  if r = 0 then 0 else if 0 ≤ (s.ar (aOf r)).getD (pOf r) 0 then r else - (s.ar (aOf r)).getD (pOf r) 0

/-- A reference that the program can follow. -/
def GoodRef (s : HS) (r : Int) : Prop :=
  r = 0 ∨ (1 ≤ r ∧ aOf r < 3 ∧ pOf r < (s.ar (aOf r)).length ∧
    ((s.ar (aOf r)).getD (pOf r) 0 < 0 →
      ∃ t, t = - (s.ar (aOf r)).getD (pOf r) 0 ∧ 1 ≤ t ∧ aOf t < 3 ∧ pOf t < (s.ar (aOf t)).length ∧ 0 ≤ (s.ar (aOf t)).getD (pOf t) 0))

section
variable {D : Ptr → Prop} {s : HS} {G : Areas} {φ : Nat → Int} {A : AHeap}

theorem Rep.first (h : Rep D s G φ A) {r : Int} {o : List Int} (hl : Loc G r o) : (s.ar (aOf r)).getD (pOf r) 0 = hd o ∧ pOf r + o.length ≤ (s.ar (aOf r)).length ∧ 0 < o.length := by
  have hw := h.objs _ hl.2.1 o hl.2.2.mem
  rw [h.flat _ hl.2.1]
  exact ⟨hl.first hw.1, hl.2.2.le, List.length_pos_iff.2 hw.1⟩

theorem Rep.atPhi (h : Rep D s G φ A) {m : Nat} (hm : Reach A m) : (s.ar (aOf (φ m))).getD (pOf (φ m)) 0 = hdr (A.obj m).tag (A.obj m).refs.length (A.obj m).raws.length ∧
    aOf (φ m) < 3 ∧ pOf (φ m) + (A.obj m).size ≤ (s.ar (aOf (φ m))).length := by
  obtain ⟨fs, h1, h2, _⟩ := h.obj m hm
  have := h.first h1
  refine ⟨this.1, h1.2.1, ?_⟩
  have := this.2.1
  simp [h2] at this
  unfold AObj.size
  omega

theorem Rep.newest_ok (h : Rep D s G φ A) {x : Int} {n : Nat} (hx : RefOk G φ s.now x n) (hn : ∀ m, n = m + 1 → Reach A m) : newest s x = phi φ n ∧ GoodRef s x := by
  have good : ∀ m, Reach A m → newest s (φ m) = φ m ∧ GoodRef s (φ m) := by
    intro m hm
    obtain ⟨e1, e2, e3⟩ := h.atPhi hm
    have hp := h.pos hm
    have hnn := hdr_nonneg (A.obj m).tag (A.obj m).refs.length (A.obj m).raws.length
    have hs : 0 < (A.obj m).size := by unfold AObj.size; omega
    refine ⟨?_, .inr ⟨hp, e2, by omega, fun hlt => ?_⟩⟩
    · unfold newest
      rw [if_neg (by omega), e1, if_pos hnn]
    · rw [e1] at hlt; omega
  rcases hx with rfl | ⟨m, o, rfl, hl, ho, _, hnow⟩
  · cases n with
    | zero => exact ⟨by simp [newest, phi], .inl rfl⟩
    | succ m => exact good m (hn m rfl)
  · have hm := hn m rfl
    have hp := h.pos hm
    obtain ⟨f1, f2, f3⟩ := h.first hl
    obtain ⟨e1, e2, e3⟩ := h.atPhi hm
    have hnn := hdr_nonneg (A.obj m).tag (A.obj m).refs.length (A.obj m).raws.length
    have hs : 0 < (A.obj m).size := by unfold AObj.size; omega
    have hx1 := hl.1
    refine ⟨?_, .inr ⟨hl.1, hl.2.1, by omega, fun _ => ⟨φ m, ?_, hp, e2, by omega, by rw [e1]; exact hnn⟩⟩⟩
    · unfold newest
      rw [if_neg (by omega), f1, ho, if_neg (by omega)]
      simp [phi]
    · rw [f1, ho]; omega

/-- The words that have not been copied out of an area. -/
def fresh (os : List (List Int)) : Nat := wt (fun _ o => decide (0 ≤ hd o)) 0 os

theorem fresh_le (os : List (List Int)) : fresh os ≤ flen os := wt_le _ _ _

/-- The state behind copying the object at a reference to the area now. -/
def copyTo (s : HS) (r : Int) (o : List Int) : HS :=
  { ((s.setAr s.now (s.ar s.now ++ o)).setAr (aOf r) ((s.ar (aOf r)).set (pOf r) (-(enc s.now (s.ar s.now).length)))) with copied := s.copied + o.length }

theorem copyTo_ar_now {r : Int} {o : List Int} (hn : s.now < 2) (ha : aOf r < 3) (hne : aOf r ≠ s.now) : (copyTo s r o).ar s.now = s.ar s.now ++ o := by
  have : (copyTo s r o).ar s.now = ((s.setAr s.now (s.ar s.now ++ o)).setAr (aOf r) ((s.ar (aOf r)).set (pOf r) (-(enc s.now (s.ar s.now).length)))).ar s.now := rfl
  rw [this, ar_setAr_other _ _ ha (by omega) (Ne.symm hne), ar_setAr_same _ _ (by omega)]

theorem copyTo_ar_a {r : Int} {o : List Int} (ha : aOf r < 3) : (copyTo s r o).ar (aOf r) = (s.ar (aOf r)).set (pOf r) (-(enc s.now (s.ar s.now).length)) := by
  have : (copyTo s r o).ar (aOf r) = ((s.setAr s.now (s.ar s.now ++ o)).setAr (aOf r) ((s.ar (aOf r)).set (pOf r) (-(enc s.now (s.ar s.now).length)))).ar (aOf r) := rfl
  rw [this, ar_setAr_same _ _ ha]

theorem copyTo_ar_other {r : Int} {o : List Int} {k : Nat} (hn : s.now < 2) (ha : aOf r < 3) (hk : k < 3) (h1 : k ≠ aOf r) (h2 : k ≠ s.now) : (copyTo s r o).ar k = s.ar k := by
  have : (copyTo s r o).ar k = ((s.setAr s.now (s.ar s.now ++ o)).setAr (aOf r) ((s.ar (aOf r)).set (pOf r) (-(enc s.now (s.ar s.now).length)))).ar k := rfl
  rw [this, ar_setAr_other _ _ ha hk h1, ar_setAr_other _ _ (by omega) hk h2]

theorem setAr_now (s : HS) (k : Nat) (l : List Int) : (s.setAr k l).now = s.now ∧ (s.setAr k l).slots = s.slots ∧ (s.setAr k l).todo = s.todo := by
  unfold HS.setAr
  split
  · simp
  · split <;> simp

theorem setAr_big (s : HS) (k : Nat) (l : List Int) : (s.setAr k l).big = s.big := by
  unfold HS.setAr
  split
  · rfl
  · split <;> rfl

theorem copyTo_big {r : Int} {o : List Int} : (copyTo s r o).big = s.big := by
  show ((s.setAr _ _).setAr _ _).big = s.big
  rw [setAr_big, setAr_big]

theorem copyTo_now {r : Int} {o : List Int} : (copyTo s r o).now = s.now ∧ (copyTo s r o).slots = s.slots := by
  refine ⟨?_, ?_⟩
  · show ((s.setAr _ _).setAr _ _).now = s.now
    rw [(setAr_now _ _ _).1, (setAr_now _ _ _).1]
  · show ((s.setAr _ _).setAr _ _).slots = s.slots
    rw [(setAr_now _ _ _).2.1, (setAr_now _ _ _).2.1]

def move1 (φ : Nat → Int) (m : Nat) (r : Int) : Nat → Int := fun k => if k = m then r else φ k

/-- **COPYING ONE REACHABLE OBJECT**: the abstract heap stays. -/
theorem Rep.copy (h : Rep D s G φ A) {m : Nat} (hm : Reach A m) (hne : aOf (φ m) ≠ s.now)
    (hD : ∀ i n, A.slots[i]? = some n → D (.slot i) → n ≠ m + 1) (hDf : ∀ m' k n, Reach A m' → (A.obj m').refs[k]? = some n → D (.field m' k) → n ≠ m + 1) :
    ∃ o G', Loc G (φ m) o ∧ hd o = hdr (A.obj m).tag (A.obj m).refs.length (A.obj m).raws.length ∧ o.length = (A.obj m).size ∧
      Rep D (copyTo s (φ m) o) G' (move1 φ m (enc s.now (s.ar s.now).length)) A ∧ G' s.now = G s.now ++ [o] ∧
      fresh (G' (aOf (φ m))) + o.length = fresh (G (aOf (φ m))) ∧ flen (G' (aOf (φ m))) = flen (G (aOf (φ m))) ∧
      (∀ k, k ≠ aOf (φ m) → k ≠ s.now → G' k = G k) ∧
      (∀ r o', r ≠ φ m → Loc G r o' → Loc G' r o') := by
  obtain ⟨fs, hl, hfl, hfs⟩ := h.obj m hm
  have ho : ∃ o, o = hdr (A.obj m).tag (A.obj m).refs.length (A.obj m).raws.length :: (fs ++ (A.obj m).raws) := ⟨_, rfl⟩
  obtain ⟨o, ho⟩ := ho
  rw [← ho] at hl
  have hnow := h.now
  have hhd : hd o = hdr (A.obj m).tag (A.obj m).refs.length (A.obj m).raws.length := by rw [ho]; rfl
  have hol : o.length = (A.obj m).size := by rw [ho]; simp [AObj.size, hfl]; omega
  have hsz : 0 < (A.obj m).size := by unfold AObj.size; omega
  have hnn := hdr_nonneg (A.obj m).tag (A.obj m).refs.length (A.obj m).raws.length
  have hk0 : 0 < o.length := by omega
  have hto : ∃ to, to = enc s.now (s.ar s.now).length := ⟨_, rfl⟩
  obtain ⟨to, hto⟩ := hto
  have htop : 1 ≤ to := by rw [hto]; exact enc_pos _ _
  have hflatN := h.flat s.now (by omega)
  have htoa : aOf to = s.now := by rw [hto]; exact aOf_enc _ (by omega)
  have htopp : pOf to = flen (G s.now) := by rw [hto, pOf_enc _ (by omega), hflatN]
  obtain ⟨os', e1, e2, e3, e4, pre, post, e5, e6, e7⟩ := hl.2.2.put (h.ne hl.2.1) hk0 (-to)
  rw [Nat.add_zero] at e1
  have hhead : hd (o.set 0 (-to)) = -to := by rw [ho]; simp [hd]
  have hG : ∃ G', G' = upd (upd G s.now (G s.now ++ [o])) (aOf (φ m)) os' := ⟨_, rfl⟩
  obtain ⟨G', hG⟩ := hG
  have gA : G' (aOf (φ m)) = os' := by rw [hG, upd_same]
  have gN : G' s.now = G s.now ++ [o] := by rw [hG, upd_other _ _ (Ne.symm hne), upd_same]
  have gO : ∀ k, k ≠ aOf (φ m) → k ≠ s.now → G' k = G k := fun k h1 h2 => by rw [hG, upd_other _ _ h1, upd_other _ _ h2]
  have hloc : ∀ r o', r ≠ φ m → Loc G r o' → Loc G' r o' := by
    intro r o' hr ⟨r1, r2, r3⟩
    refine ⟨r1, r2, ?_⟩
    by_cases ea : aOf r = aOf (φ m)
    · rw [ea, gA]
      have hp : pOf r ≠ pOf (φ m) := by
        intro ep
        apply hr
        rw [← enc_of r1, ← enc_of hl.1, ea, ep]
      rw [ea] at r3
      exact (e4 _ _ hp).2 r3
    · by_cases en : aOf r = s.now
      · rw [en, gN]; rw [en] at r3; exact r3.snoc o
      · rw [gO _ ea en]; exact r3
  have hlocTo : Loc G' to o := ⟨htop, by omega, by rw [htoa, gN, htopp]; exact HasObj.last _ _⟩
  have hlocOld : Loc G' (φ m) (o.set 0 (-to)) := ⟨hl.1, hl.2.1, by rw [gA]; exact e3⟩
  have hphi : ∀ m', m' ≠ m → move1 φ m to m' = φ m' := fun m' hm' => by simp [move1, hm']
  have hphim : move1 φ m to m = to := by simp [move1]
  have href : ∀ x n, RefOk G φ s.now x n → RefOk G' (move1 φ m to) s.now x n := by
    intro x n hx
    rcases hx with rfl | ⟨m', o', rfl, hlx, hox, hpx, hnx⟩
    · cases n with
      | zero => exact .inl rfl
      | succ m' =>
        by_cases em : m' = m
        · subst em
          exact .inr ⟨m', _, rfl, hlocOld, by rw [hhead, hphim], by rw [hphim]; exact htop, by rw [hphim, htoa]⟩
        · exact .inl (by simp only [phi]; rw [hphi m' em])
    · have em : m' ≠ m := by intro e; subst e; exact hne hnx
      have hxm : x ≠ φ m := by
        intro e
        subst e
        have := HasObj.unique (h.ne hl.2.1) hl.2.2 hlx.2.2
        subst this
        rw [hhd] at hox
        omega
      exact .inr ⟨m', o', rfl, hloc x o' hxm hlx, by rw [hphi m' em]; exact hox, by rw [hphi m' em]; exact hpx, by rw [hphi m' em]; exact hnx⟩
  have hex : ∀ n, n ≠ m + 1 → phi (move1 φ m to) n = phi φ n := by
    intro n hn
    cases n with
    | zero => rfl
    | succ k => exact hphi k (by omega)
  refine ⟨o, G', hl, hhd, hol, ?_, gN, ?_, ?_, gO, hloc⟩
  · rw [← hto]
    exact {
      wf := h.wf
      now := by rw [copyTo_now.1]; exact h.now
      flat := by
        intro k hk
        by_cases ea : k = aOf (φ m)
        · subst ea; rw [copyTo_ar_a hl.2.1, gA, e1, ← hto, h.flat _ hk]
        · by_cases en : k = s.now
          · subst en; rw [copyTo_ar_now hnow hl.2.1 hne, gN, hflatN]; simp
          · rw [copyTo_ar_other hnow hl.2.1 hk ea en, gO k ea en]; exact h.flat k hk
      objs := by
        rw [copyTo_big]
        intro k hk x hx
        by_cases ea : k = aOf (φ m)
        · subst ea
          rw [gA] at hx
          rw [e6] at hx
          refine ⟨e2 x (by rw [e6]; exact hx), ?_⟩
          rcases List.mem_append.1 hx with hx | hx
          · exact (h.objs _ hk x (by rw [e5]; simp [hx])).2
          · rcases List.mem_cons.1 hx with rfl | hx
            · exact ⟨by rw [List.length_set]; exact (h.objs _ hk o (by rw [e5]; simp)).2.1, fun h0 => by rw [hhead] at h0; omega⟩
            · exact (h.objs _ hk x (by rw [e5]; simp [hx])).2
        · by_cases en : k = s.now
          · subst en
            rw [gN] at hx
            rcases List.mem_append.1 hx with hx | hx
            · exact h.objs _ hk x hx
            · simp at hx; subst hx; exact h.objs _ hl.2.1 x hl.2.2.mem
          · rw [gO k ea en] at hx; exact h.objs k hk x hx
      slen := by rw [copyTo_now.2]; exact h.slen
      slot := by
        intro i x n hx hn
        rw [copyTo_now.2] at hx
        rw [copyTo_now.1]
        obtain ⟨h1, h2⟩ := h.slot i x n hx hn
        exact ⟨href x n h1, fun hd' => by rw [hex n (hD i n hn hd')]; exact h2 hd'⟩
      obj := by
        intro m' hm'
        rw [copyTo_now.1]
        by_cases em : m' = m
        · subst em
          refine ⟨fs, by rw [hphim, ← ho]; exact hlocTo, hfl, ?_⟩
          intro k x n hx hn
          obtain ⟨h1, h2⟩ := hfs k x n hx hn
          exact ⟨href x n h1, fun hd' => by rw [hex n (hDf m' k n hm' hn hd')]; exact h2 hd'⟩
        · obtain ⟨fs', hl', hfl', hfs'⟩ := h.obj m' hm'
          refine ⟨fs', by rw [hphi m' em]; exact hloc _ _ (fun e => em (h.inj _ _ hm' hm e)) hl', hfl', ?_⟩
          intro k x n hx hn
          obtain ⟨h1, h2⟩ := hfs' k x n hx hn
          exact ⟨href x n h1, fun hd' => by rw [hex n (hDf m' k n hm' hn hd')]; exact h2 hd'⟩
      inj := by
        have clash : ∀ m', Reach A m' → φ m' ≠ to := by
          intro m' hm' e
          obtain ⟨fs', hl', _⟩ := h.obj m' hm'
          have hle := hl'.2.2.le
          rw [e, htoa, htopp, List.length_cons] at hle
          omega
        intro x y hx hy e
        by_cases ex : x = m
        · by_cases ey : y = m
          · rw [ex, ey]
          · rw [ex, hphim, hphi y ey] at e; exact absurd e.symm (clash y hy)
        · by_cases ey : y = m
          · rw [ey, hphim, hphi x ex] at e; exact absurd e (clash x hx)
          · rw [hphi x ex, hphi y ey] at e; exact h.inj x y hx hy e
      fits := h.fits }
  · rw [gA, e6, e5]
    unfold fresh
    rw [wt_append, wt_append]
    simp only [wt]
    have c1 : decide (0 ≤ hd o) = true := by rw [hhd]; simpa using hnn
    have c2 : decide (0 ≤ hd (o.set 0 (-to))) = false := by rw [hhead]; simp; omega
    simp only [c1, c2, List.length_set, if_true, Bool.false_eq_true, if_false]
    omega
  · rw [gA]
    unfold flen
    rw [e1]; simp
end
end Go.Proofs.Ythjokcjdphempaa.Hp
