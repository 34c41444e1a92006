/- Plain mathematics of layer 29: one step of the walk through all reachable objects, with or without copying. No program is in sight here. -/
import Derived.Test.YthjokcjdphempaaGb
namespace Go.Proofs.Ythjokcjdphempaa.Hp

/-- The state with another word at a place of references; fields of the object m stand behind its place r. -/
def fieldSet (s : HS) (r : Int) (k : Nat) (v : Int) : HS := s.setAr (aOf r) ((s.ar (aOf r)).set (pOf r + (k + 1)) v)
def fieldGet (s : HS) (r : Int) (k : Nat) : Int := (s.ar (aOf r)).getD (pOf r + (k + 1)) 0

/-- What a walk leaves as it was. -/
structure Same (s0 s : HS) : Prop where
  objs : s.objs = s0.objs
  words : s.words = s0.words
  worst : s.worst = s0.worst
  minors : s.minors = s0.minors
  majors : s.majors = s0.majors
  room : s.room = s0.room
  young : s.young = s0.young
  now : s.now = s0.now
  todo : s.todo = s0.todo
  moves : s.moves = s0.moves
  bound : s.bound = s0.bound
  big : s.big = s0.big

theorem Same.refl (s : HS) : Same s s := ⟨rfl, rfl, rfl, rfl, rfl, rfl, rfl, rfl, rfl, rfl, rfl, rfl⟩
theorem Same.trans {a b c : HS} (h : Same a b) (k : Same b c) : Same a c :=
  ⟨k.objs.trans h.objs, k.words.trans h.words, k.worst.trans h.worst, k.minors.trans h.minors, k.majors.trans h.majors, k.room.trans h.room, k.young.trans h.young, k.now.trans h.now, k.todo.trans h.todo, k.moves.trans h.moves, k.bound.trans h.bound, k.big.trans h.big⟩

theorem same_setAr (s : HS) (k : Nat) (l : List Int) : Same s (s.setAr k l) ∧ (s.setAr k l).copied = s.copied := by
  unfold HS.setAr
  split
  · exact ⟨⟨rfl, rfl, rfl, rfl, rfl, rfl, rfl, rfl, rfl, rfl, rfl, rfl⟩, rfl⟩
  · split
    · exact ⟨⟨rfl, rfl, rfl, rfl, rfl, rfl, rfl, rfl, rfl, rfl, rfl, rfl⟩, rfl⟩
    · exact ⟨⟨rfl, rfl, rfl, rfl, rfl, rfl, rfl, rfl, rfl, rfl, rfl, rfl⟩, rfl⟩

theorem same_copyTo (s : HS) (r : Int) (o : List Int) : Same s (copyTo s r o) := by
  have h1 := (same_setAr s s.now (s.ar s.now ++ o)).1
  have h2 := (same_setAr (s.setAr s.now (s.ar s.now ++ o)) (aOf r) ((s.ar (aOf r)).set (pOf r) (-(enc s.now (s.ar s.now).length)))).1
  have h3 := h1.trans h2
  exact ⟨h3.objs, h3.words, h3.worst, h3.minors, h3.majors, h3.room, h3.young, h3.now, h3.todo, h3.moves, h3.bound, h3.big⟩

/-- What a walk knows on its way: D: the references that it has gone through; out: the objects found, l: where they are. mv: the area that is emptied. quiet: nothing reachable lies there. -/
structure WInv (A : AHeap) (mv : Option Nat) (quiet : Prop) (s0 : HS) (G0 : Areas) (φ0 : Nat → Int) (D : Ptr → Prop) (out : List Nat) (s : HS) (G : Areas) (φ : Nat → Int) : Prop where
  rep : Rep D s G φ A
  reach : ∀ m ∈ out, Reach A m
  dslot : ∀ i n, A.slots[i]? = some n → D (.slot i) → ∀ m, n = m + 1 → m ∈ out
  dfield : ∀ m' k n, Reach A m' → (A.obj m').refs[k]? = some n → D (.field m' k) → ∀ m, n = m + 1 → m ∈ out
  off : ∀ a, mv = some a → ∀ m ∈ out, aOf (φ m) ≠ a
  same : Same s0 s
  slen : s.slots.length = s0.slots.length
  still : mv = none ∨ quiet → s.copied = s0.copied ∧ (∀ k, (s.ar k).length = (s0.ar k).length) ∧ φ = φ0
  far : quiet → ∀ a, mv = some a → ∀ m, Reach A m → aOf (φ m) ≠ a
  acc : ∀ a, mv = some a → a < 3 ∧ a ≠ s0.now ∧ fresh (G0 a) ≤ (s0.ar a).length ∧
    (∃ c : Nat, s.copied = s0.copied + c ∧ fresh (G a) + c = fresh (G0 a) ∧ (s.ar s0.now).length = (s0.ar s0.now).length + c) ∧
    (∀ k, k ≠ s0.now → (s.ar k).length = (s0.ar k).length)
  phis : ∀ m, φ m = φ0 m ∨ (aOf (φ m) = s0.now ∧ ∃ a, mv = some a ∧ aOf (φ0 m) = a)
  locs : ∀ r o, Loc G0 r o → (∀ a, mv = some a → aOf r ≠ a) → ∃ o', Loc G r o' ∧ hd o' = hd o ∧ o'.length = o.length

theorem ar_big (s : HS) {k : Nat} (h : 3 ≤ k) : s.ar k = s.ar 2 := by unfold HS.ar; rw [if_neg (by omega), if_neg (by omega)]; simp

theorem len_setAr (s : HS) (k : Nat) (l : List Int) (h : l.length = (s.ar k).length) (j : Nat) : ((s.setAr k l).ar j).length = (s.ar j).length := by
  have hb : ∀ k : Nat, 3 ≤ k → s.setAr k l = s.setAr 2 l := fun k hk => by unfold HS.setAr; rw [if_neg (by omega), if_neg (by omega)]; simp
  have go : ∀ k, k < 3 → l.length = (s.ar k).length → ∀ j, j < 3 → ((s.setAr k l).ar j).length = (s.ar j).length := by
    intro k hk h j hj
    by_cases e : j = k
    · subst e; rw [ar_setAr_same _ _ hk, h]
    · rw [ar_setAr_other _ _ hk hj e]
  by_cases hk : k < 3
  · by_cases hj : j < 3
    · exact go k hk h j hj
    · rw [ar_big _ (by omega), ar_big s (k := j) (by omega)]; exact go k hk h 2 (by omega)
  · rw [hb k (by omega)]
    rw [ar_big s (by omega)] at h
    by_cases hj : j < 3
    · exact go 2 (by omega) h j hj
    · rw [ar_big _ (by omega), ar_big s (k := j) (by omega)]; exact go 2 (by omega) h 2 (by omega)

section
variable {A : AHeap} {mv : Option Nat} {quiet : Prop} {s0 : HS} {G0 : Areas} {φ0 : Nat → Int} {D : Ptr → Prop} {out : List Nat} {s : HS} {G : Areas} {φ : Nat → Int}

theorem WInv.start (h : Rep D s G φ A) (hD : ∀ p, ¬ D p) (hmv : ∀ a, mv = some a → a < 3 ∧ a ≠ s.now) (hq : quiet → ∀ a, mv = some a → ∀ m, Reach A m → aOf (φ m) ≠ a) :
    WInv A mv quiet s G φ D [] s G φ where
  rep := h
  reach := fun m hm => by cases hm
  dslot := fun i n _ hd => (hD _ hd).elim
  dfield := fun m k n _ _ hd => (hD _ hd).elim
  off := fun a _ m hm => by cases hm
  same := Same.refl s
  slen := rfl
  still := fun _ => ⟨rfl, fun _ => rfl, rfl⟩
  far := hq
  acc := fun a ha => ⟨(hmv a ha).1, (hmv a ha).2, by rw [h.flat a (hmv a ha).1]; exact fresh_le _, ⟨0, by simp, rfl, rfl⟩, fun _ _ => rfl⟩
  phis := fun m => .inl rfl
  locs := fun r o h _ => ⟨o, h, rfl, rfl⟩

/-- Nothing stands there: the reference is done. -/
theorem WInv.skip (h : WInv A mv quiet s0 G0 φ0 D out s G φ) (p : Ptr)
    (hs : ∀ i, p = .slot i → ∀ x n, s.slots[i]? = some x → A.slots[i]? = some n → n = 0 ∧ x = 0)
    (hf : ∀ m k, p = .field m k → ∀ n, (A.obj m).refs[k]? = some n → n = 0 ∧ (∀ fs, Loc G (φ m) (hdr (A.obj m).tag (A.obj m).refs.length (A.obj m).raws.length :: (fs ++ (A.obj m).raws)) → fs.length = (A.obj m).refs.length → fs[k]? = some 0)) :
    WInv A mv quiet s0 G0 φ0 (fun q => D q ∨ q = p) out s G φ :=
  { h with
    rep :=
      { h.rep with
        slot := fun i x n hx hn => ⟨(h.rep.slot i x n hx hn).1, fun hd => by
          rcases hd with hd | hd
          · exact (h.rep.slot i x n hx hn).2 hd
          · obtain ⟨h1, h2⟩ := hs i hd.symm x n hx hn
            rw [h1, h2]; rfl⟩
        obj := fun m hm => by
          obtain ⟨fs, h1, h2, h3⟩ := h.rep.obj m hm
          refine ⟨fs, h1, h2, fun k x n hx hn => ⟨(h3 k x n hx hn).1, fun hd => ?_⟩⟩
          rcases hd with hd | hd
          · exact (h3 k x n hx hn).2 hd
          · obtain ⟨h4, h5⟩ := hf m k hd.symm n hn
            have := h5 fs h1 h2
            rw [hx] at this
            cases this
            rw [h4]; rfl }
    dslot := fun i n hn hd m hm => by
      rcases hd with hd | hd
      · exact h.dslot i n hn hd m hm
      · have hi : i < s.slots.length := by rw [h.rep.slen]; exact (List.getElem?_eq_some_iff.1 hn).1
        obtain ⟨h1, _⟩ := hs i hd.symm _ n (List.getElem?_eq_getElem hi) hn
        omega
    dfield := fun m' k n hm' hn hd m hm => by
      rcases hd with hd | hd
      · exact h.dfield m' k n hm' hn hd m hm
      · obtain ⟨h1, _⟩ := hf m' k hd.symm n hn
        omega }

/-- An object that is reachable comes into the list; it is where it is. -/
theorem WInv.found (h : WInv A mv quiet s0 G0 φ0 D out s G φ) {m : Nat} (hm : Reach A m) (hoff : ∀ a, mv = some a → aOf (φ m) ≠ a) : WInv A mv quiet s0 G0 φ0 D (addv out (m + 1)) s G φ :=
  { h with
    reach := fun k hk => by
      rcases addv_mem hk with hk | hk
      · exact h.reach k hk
      · have : k = m := by omega
        subst this; exact hm
    dslot := fun i n hn hd k hk => addv_sub _ _ _ (h.dslot i n hn hd k hk)
    dfield := fun m' k n hm' hn hd j hj => addv_sub _ _ _ (h.dfield m' k n hm' hn hd j hj)
    off := fun a ha k hk => by
      rcases addv_mem hk with hk | hk
      · exact h.off a ha k hk
      · have : k = m := by omega
        subst this; exact hoff a ha }

/-- A slot is written with where its object is. -/
theorem WInv.writeSlot (h : WInv A mv quiet s0 G0 φ0 D out s G φ) {i n : Nat} (hn : A.slots[i]? = some n) (hout : ∀ m, n = m + 1 → m ∈ out) :
    WInv A mv quiet s0 G0 φ0 (fun q => D q ∨ q = .slot i) out { s with slots := s.slots.set i (phi φ n) } G φ := by
  have hr := h.rep.setSlot (i := i) (n := n) (x := phi φ n) (.inl rfl) (fun j hj => by subst hj; exact .slot (List.mem_of_getElem? hn))
  rw [setSlot_same hn] at hr
  exact {
    rep := hr.mono (fun p hp => by
      by_cases e : p = .slot i
      · exact .inr ⟨e, rfl⟩
      · exact .inl ⟨hp.resolve_right e, e⟩)
    reach := h.reach
    dslot := fun j b hb hd m hm => by
      rcases hd with hd | hd
      · exact h.dslot j b hb hd m hm
      · cases hd; rw [hn] at hb; cases hb; exact hout m hm
    dfield := fun m' k b hm' hb hd m hm => by
      rcases hd with hd | hd
      · exact h.dfield m' k b hm' hb hd m hm
      · cases hd
    off := h.off
    same := ⟨h.same.objs, h.same.words, h.same.worst, h.same.minors, h.same.majors, h.same.room, h.same.young, h.same.now, h.same.todo, h.same.moves, h.same.bound, h.same.big⟩
    slen := by show (s.slots.set i _).length = _; simp [h.slen]
    still := h.still
    far := h.far
    acc := h.acc
    phis := h.phis
    locs := h.locs }

/-- A reference of an object is written with where its object is. -/
theorem WInv.writeField (h : WInv A mv quiet s0 G0 φ0 D out s G φ) {m' k n : Nat} (hm' : Reach A m') (hn : (A.obj m').refs[k]? = some n) (hout : ∀ m, n = m + 1 → m ∈ out) :
    ∃ G', WInv A mv quiet s0 G0 φ0 (fun q => D q ∨ q = .field m' k) out (fieldSet s (φ m') k (phi φ n)) G' φ := by
  obtain ⟨G', hr, hk, _⟩ := h.rep.setRef (m := m') (k := k) (n := n) (x := phi φ n) hm' (List.getElem?_eq_some_iff.1 hn).1 (.inl rfl) (fun j hj => by subst hj; exact .ref hm' (List.mem_of_getElem? hn))
  rw [setRef_same hn] at hr
  have hs := same_setAr s (aOf (φ m')) ((s.ar (aOf (φ m'))).set (pOf (φ m') + (k + 1)) (phi φ n))
  have hlen := len_setAr s (aOf (φ m')) ((s.ar (aOf (φ m'))).set (pOf (φ m') + (k + 1)) (phi φ n)) (by simp)
  refine ⟨G', ?_⟩
  exact {
    rep := hr.mono (fun p hp => by
      by_cases e : p = .field m' k
      · exact .inr ⟨e, rfl⟩
      · exact .inl ⟨hp.resolve_right e, e⟩)
    reach := h.reach
    dslot := fun j b hb hd m hm => by
      rcases hd with hd | hd
      · exact h.dslot j b hb hd m hm
      · cases hd
    dfield := fun a i b ha hb hd m hm => by
      rcases hd with hd | hd
      · exact h.dfield a i b ha hb hd m hm
      · cases hd; rw [hn] at hb; cases hb; exact hout m hm
    off := h.off
    same := h.same.trans hs.1
    slen := by unfold fieldSet; rw [(setAr_now _ _ _).2.1]; exact h.slen
    still := fun hq => by
      obtain ⟨h1, h2, h3⟩ := h.still hq
      exact ⟨hs.2.trans h1, fun j => (hlen j).trans (h2 j), h3⟩
    far := h.far
    acc := fun a ha => by
      obtain ⟨h1, h2, h3, ⟨c, c1, c2, c3⟩, h5⟩ := h.acc a ha
      unfold fieldSet
      rw [hk.fresh, hs.2, hlen]
      exact ⟨h1, h2, h3, ⟨c, c1, c2, c3⟩, fun j hj => (hlen j).trans (h5 j hj)⟩
    phis := h.phis
    locs := fun r o hl hoff => by
      obtain ⟨o1, h1, h2, h3⟩ := h.locs r o hl hoff
      obtain ⟨o2, h4, h5, h6⟩ := hk.loc r o1 h1
      exact ⟨o2, h4, h5.trans h2, h6.trans h3⟩ }

/-- An object of the area that is emptied is copied. -/
theorem WInv.copy (h : WInv A mv quiet s0 G0 φ0 D out s G φ) {a m : Nat} (hm : Reach A m) (ha : mv = some a) (hat : aOf (φ m) = a) :
    ∃ o G', Loc G (φ m) o ∧ hd o = hdr (A.obj m).tag (A.obj m).refs.length (A.obj m).raws.length ∧ o.length = (A.obj m).size ∧ m ∉ out ∧
      (s.ar s.now).length + o.length ≤ (s0.ar s0.now).length + (s0.ar a).length ∧
      (∀ k ∈ out, move1 φ m (enc s.now (s.ar s.now).length) k = φ k) ∧
      WInv A mv quiet s0 G0 φ0 D out (copyTo s (φ m) o) G' (move1 φ m (enc s.now (s.ar s.now).length)) := by
  have hmo : m ∉ out := fun hmo => h.off a ha m hmo hat
  obtain ⟨ha3, han, hG0, ⟨c, hac, hfr, hal⟩, hao⟩ := h.acc a ha
  have hnow := h.same.now
  have hne : aOf (φ m) ≠ s.now := by rw [hat, hnow]; exact han
  have hnq : ¬ quiet := fun hq => h.far hq a ha m hm hat
  obtain ⟨o, G', hl, hh, hol, hr, gN, gF, gL, gO, hloc⟩ := h.rep.copy hm hne
    (fun i n hn hd e => hmo (h.dslot i n hn hd m e)) (fun m' k n hm' hn hd e => hmo (h.dfield m' k n hm' hn hd m e))
  have hto : aOf (enc s.now (s.ar s.now).length) = s0.now := by rw [aOf_enc _ (by have := h.rep.now; omega), hnow]
  have hkeep : ∀ k ∈ out, move1 φ m (enc s.now (s.ar s.now).length) k = φ k := fun k hk => by
    have : k ≠ m := fun e => hmo (e ▸ hk)
    simp [move1, this]
  have hlow : o.length ≤ fresh (G a) := by rw [hat] at gF; omega
  have hcn : (copyTo s (φ m) o).ar s0.now = s.ar s0.now ++ o := by rw [← hnow]; exact copyTo_ar_now h.rep.now hl.2.1 hne
  have hca : ∀ k, k < 3 → k ≠ s0.now → ((copyTo s (φ m) o).ar k).length = (s.ar k).length := by
    intro k hk hkn
    by_cases e : k = aOf (φ m)
    · subst e; rw [copyTo_ar_a hl.2.1]; simp
    · rw [copyTo_ar_other h.rep.now hl.2.1 hk e (by rw [hnow]; exact hkn)]
  have hca' : ∀ k, k ≠ s0.now → ((copyTo s (φ m) o).ar k).length = (s.ar k).length := by
    intro k hkn
    by_cases hk : k < 3
    · exact hca k hk hkn
    · rw [ar_big _ (by omega), ar_big s (k := k) (by omega)]
      exact hca 2 (by omega) (by have := h.rep.now; omega)
  refine ⟨o, G', hl, hh, hol, hmo, ?_, hkeep, ?_⟩
  · rw [hnow]; omega
  · exact {
      rep := hr
      reach := h.reach
      dslot := h.dslot
      dfield := h.dfield
      off := fun b hb k hk => by rw [hkeep k hk]; exact h.off b hb k hk
      same := h.same.trans (same_copyTo _ _ _)
      slen := by rw [copyTo_now.2]; exact h.slen
      still := fun hq => by
        rcases hq with hq | hq
        · rw [ha] at hq; cases hq
        · exact absurd hq hnq
      far := fun hq => absurd hq hnq
      acc := fun b hb => by
        rw [ha] at hb
        cases hb
        rw [hat] at gF
        refine ⟨ha3, han, hG0, ⟨c + o.length, ?_, by omega, ?_⟩, fun k hk => (hca' k hk).trans (hao k hk)⟩
        · show s.copied + (o.length : Int) = _
          omega
        · rw [hcn, List.length_append]; omega
      phis := fun k => by
        by_cases e : k = m
        · subst e
          right
          refine ⟨by simp [move1]; exact hto, a, ha, ?_⟩
          rcases h.phis k with h1 | ⟨h1, _⟩
          · rw [← h1]; exact hat
          · rw [hat] at h1; exact absurd h1 han
        · have : move1 φ m (enc s.now (s.ar s.now).length) k = φ k := by simp [move1, e]
          rw [this]; exact h.phis k
      locs := fun r o1 hl1 hoff => by
        obtain ⟨o2, h1, h2, h3⟩ := h.locs r o1 hl1 hoff
        refine ⟨o2, hloc r o2 (fun e => hoff a ha (by rw [e]; exact hat)) h1, h2, h3⟩ }
end
end Go.Proofs.Ythjokcjdphempaa.Hp
