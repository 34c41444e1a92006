/- Plain mathematics of layer 29: what holds of the program's heap between its steps, and that the collections keep it. No program is in sight here. -/
import Derived.Test.YthjokcjdphempaaGw
namespace Go.Proofs.Ythjokcjdphempaa.Hp

/-- The first word of the object at a reference. -/
def headAt (s : HS) (r : Int) : Int := (s.ar (aOf r)).getD (pOf r) 0

/-- The words that are still to be copied. -/
def todoSum (s : HS) : Nat := (s.todo.map fun r => sizeN (headAt s r)).sum

structure InvG (s : HS) (G : Areas) (φ : Nat → Int) (A : AHeap) : Prop where
  rep : Rep (fun _ => False) s G φ A
  room1 : 256 ≤ s.room
  room2 : s.room ≤ 65536
  young1 : 16 ≤ s.young
  young2 : s.young ≤ s.room / 16
  ylen : ((s.ar 2).length : Int) ≤ s.young
  idle : s.moves = false → s.todo = [] ∧ s.ar (1 - s.now) = []
  busyN : s.todo.Nodup
  busyO : ∀ r ∈ s.todo, ∃ o, Loc G r o ∧ aOf r = 1 - s.now ∧ 0 ≤ hd o
  busyR : s.moves = true → ∀ m, Reach A m → aOf (φ m) = 1 - s.now → φ m ∈ s.todo
  sum : (todoSum s : Int) ≤ s.room
  words0 : 0 ≤ s.words
  copied0 : 0 ≤ s.copied
  lens : ∀ k, k < 3 → ((s.ar k).length : Int) ≤ s.words + s.copied
  live : (A.live : Int) ≤ s.room

/-- All references that a walk has to go through have been gone through. -/
structure Through (A : AHeap) (D : Ptr → Prop) (out : List Nat) : Prop where
  all : out = A.search
  slots : ∀ i, i < A.slots.length → D (.slot i)
  fields : ∀ m ∈ out, ∀ k, k < (A.obj m).refs.length → D (.field m k)

section
variable {A : AHeap} {mv : Option Nat} {quiet : Prop} {s0 : HS} {G0 : Areas} {φ0 : Nat → Int} {D : Ptr → Prop} {out : List Nat} {s : HS} {G : Areas} {φ : Nat → Int}

theorem WInv.exact (h : WInv A mv quiet s0 G0 φ0 D out s G φ) (ht : Through A D out) : Rep (fun _ => True) s G φ A ∧ ∀ m, Reach A m → ∀ a, mv = some a → aOf (φ m) ≠ a := by
  have hin : ∀ m, Reach A m → m ∈ out := fun m hm => by rw [ht.all]; exact (mem_search h.rep.wf).2 hm
  refine ⟨?_, fun m hm a ha => h.off a ha m (hin m hm)⟩
  exact { h.rep with
    slot := fun i x n hx hn => ⟨(h.rep.slot i x n hx hn).1, fun _ => (h.rep.slot i x n hx hn).2 (ht.slots i (List.getElem?_eq_some_iff.1 hn).1)⟩
    obj := fun m hm => by
      obtain ⟨fs, h1, h2, h3⟩ := h.rep.obj m hm
      exact ⟨fs, h1, h2, fun k x n hx hn => ⟨(h3 k x n hx hn).1, fun _ => (h3 k x n hx hn).2 (ht.fields m (hin m hm) k (List.getElem?_eq_some_iff.1 hn).1)⟩⟩ }

/-- An area in which nothing reachable lies may be emptied, when all references are up to date. -/
theorem Rep.clear (h : Rep (fun _ => True) s G φ A) {a : Nat} (ha : a < 3) (hoff : ∀ m, Reach A m → aOf (φ m) ≠ a) : Rep (fun _ => True) (s.setAr a []) (upd G a []) φ A where
  wf := h.wf
  now := by rw [(setAr_now _ _ _).1]; exact h.now
  flat := fun k hk => by
    by_cases e : k = a
    · subst e; rw [ar_setAr_same _ _ hk, upd_same]; rfl
    · rw [ar_setAr_other _ _ ha hk e, upd_other _ _ e]; exact h.flat k hk
  objs := by
    rw [setAr_big]
    intro k hk o ho
    by_cases e : k = a
    · subst e; rw [upd_same] at ho; cases ho
    · rw [upd_other _ _ e] at ho; exact h.objs k hk o ho
  slen := by rw [(setAr_now _ _ _).2.1]; exact h.slen
  slot := by
    rw [(setAr_now _ _ _).2.1]
    intro i x n hx hn
    have := (h.slot i x n hx hn).2 trivial
    exact ⟨.inl this, fun _ => this⟩
  obj := fun m hm => by
    obtain ⟨fs, h1, h2, h3⟩ := h.obj m hm
    refine ⟨fs, ⟨h1.1, h1.2.1, by rw [upd_other _ _ (hoff m hm)]; exact h1.2.2⟩, h2, fun k x n hx hn => ?_⟩
    have := (h3 k x n hx hn).2 trivial
    exact ⟨.inl this, fun _ => this⟩
  inj := h.inj
  fits := h.fits

theorem headAt_loc (h : Rep D s G φ A) {r : Int} {o : List Int} (hl : Loc G r o) : headAt s r = hd o := (h.first hl).1

/-- What is to be copied is not turned by a walk. -/
theorem WInv.todo (h : WInv A mv quiet s0 G0 φ0 D out s G φ) (hi : InvG s0 G0 φ0 A) (hmv : ∀ a, mv = some a → a ≠ 1 - s0.now ∨ s0.todo = []) :
    (∀ r ∈ s0.todo, ∃ o, Loc G r o ∧ aOf r = 1 - s0.now ∧ 0 ≤ hd o) ∧ todoSum s = todoSum s0 := by
  have key : ∀ r ∈ s0.todo, ∃ o, Loc G r o ∧ aOf r = 1 - s0.now ∧ 0 ≤ hd o ∧ headAt s r = headAt s0 r := by
    intro r hr
    obtain ⟨o, h1, h2, h3⟩ := hi.busyO r hr
    obtain ⟨o', h4, h5, h6⟩ := h.locs r o h1 (fun a ha e => by
      rcases hmv a ha with hm | hm
      · exact hm (by rw [← e, h2])
      · rw [hm] at hr; cases hr)
    exact ⟨o', h4, h2, by rw [h5]; exact h3, by rw [headAt_loc h.rep h4, headAt_loc hi.rep h1, h5]⟩
  refine ⟨fun r hr => ?_, ?_⟩
  · obtain ⟨o, h1, h2, h3, _⟩ := key r hr
    exact ⟨o, h1, h2, h3⟩
  · unfold todoSum
    rw [h.same.todo]
    congr 1
    apply List.map_congr_left
    intro r hr
    obtain ⟨o, _, _, _, h4⟩ := key r hr
    rw [h4]

/-- A walk that copies nothing keeps all. -/
theorem InvG.walked (hi : InvG s0 G0 φ0 A) (h : WInv A none quiet s0 G0 φ0 D out s G φ) : InvG s G φ A ∧ todoSum s = todoSum s0 := by
  obtain ⟨h1, h2⟩ := h.todo hi (fun a ha => by cases ha)
  obtain ⟨c1, c2, c3⟩ := h.still (.inl rfl)
  refine ⟨?_, h2⟩
  exact {
    rep := h.rep.mono (fun _ hp => hp.elim)
    room1 := by rw [h.same.room]; exact hi.room1
    room2 := by rw [h.same.room]; exact hi.room2
    young1 := by rw [h.same.young]; exact hi.young1
    young2 := by rw [h.same.young, h.same.room]; exact hi.young2
    ylen := by rw [h.same.young, c2]; exact hi.ylen
    idle := by
      rw [h.same.moves, h.same.todo, h.same.now]
      intro hm
      refine ⟨(hi.idle hm).1, ?_⟩
      have := c2 (1 - s0.now)
      rw [(hi.idle hm).2] at this
      exact List.eq_nil_of_length_eq_zero this
    busyN := by rw [h.same.todo]; exact hi.busyN
    busyO := by rw [h.same.todo, h.same.now]; exact h1
    busyR := by rw [h.same.todo, h.same.now, h.same.moves, c3]; exact hi.busyR
    sum := by rw [h2, h.same.room]; exact hi.sum
    words0 := by rw [h.same.words]; exact hi.words0
    copied0 := by rw [c1]; exact hi.copied0
    lens := by intro k hk; rw [h.same.words, c1, c2]; exact hi.lens k hk
    live := by rw [h.same.room]; exact hi.live }

/-- **THE YOUNG AREA IS EMPTIED.** -/
theorem InvG.minor (hi : InvG s0 G0 φ0 A) (h : WInv A (some 2) False s0 G0 φ0 D out s G φ) (ht : Through A D out) :
    InvG (s.setAr 2 []) (upd G 2 []) φ A ∧ (∀ m, Reach A m → aOf (φ m) ≠ 2) ∧ todoSum (s.setAr 2 []) = todoSum s0 ∧
    ∃ c : Nat, (s.setAr 2 []).copied = s0.copied + c ∧ c ≤ (s0.ar 2).length ∧ ((s.setAr 2 []).ar s0.now).length = (s0.ar s0.now).length + c ∧
      ((s.setAr 2 []).ar (1 - s0.now)).length = (s0.ar (1 - s0.now)).length ∧ (s.setAr 2 []).ar 2 = [] := by
  obtain ⟨hex, hoff⟩ := h.exact ht
  have hoff' : ∀ m, Reach A m → aOf (φ m) ≠ 2 := fun m hm => hoff m hm 2 rfl
  have hn := hi.rep.now
  obtain ⟨h1, h2⟩ := h.todo hi (fun a ha => by cases ha; left; omega)
  obtain ⟨_, _, hG0, ⟨c, hac, hfr, hal⟩, hao⟩ := h.acc 2 rfl
  have hrep := hex.clear (by omega) hoff'
  have hs := same_setAr s 2 []
  have hsm := h.same.trans hs.1
  have hsum : todoSum (s.setAr 2 []) = todoSum s := by
    unfold todoSum
    rw [(setAr_now _ _ _).2.2]
    congr 1
    apply List.map_congr_left
    intro r hr
    rw [h.same.todo] at hr
    obtain ⟨o, hl, ha, _⟩ := h1 r hr
    unfold headAt
    rw [ar_setAr_other _ _ (by omega) (by omega) (by omega)]
  have e2 : (s.setAr 2 []).ar 2 = [] := ar_setAr_same _ _ (by omega)
  have en : (s.setAr 2 []).ar s0.now = s.ar s0.now := ar_setAr_other _ _ (by omega) (by omega) (by omega)
  have e1 : (s.setAr 2 []).ar (1 - s0.now) = s.ar (1 - s0.now) := ar_setAr_other _ _ (by omega) (by omega) (by omega)
  have hsn := h.same.now
  refine ⟨?_, hoff', by rw [hsum, h2], c, by rw [hs.2]; exact hac, by omega, by rw [en]; exact hal, by rw [e1]; exact hao _ (by omega), e2⟩
  exact {
    rep := hrep.mono (fun _ _ => trivial)
    room1 := by rw [hsm.room]; exact hi.room1
    room2 := by rw [hsm.room]; exact hi.room2
    young1 := by rw [hsm.young]; exact hi.young1
    young2 := by rw [hsm.young, hsm.room]; exact hi.young2
    ylen := by rw [e2, hsm.young]; have := hi.young1; simp; omega
    idle := by
      rw [hsm.moves, hsm.todo, hsm.now]
      intro hm
      refine ⟨(hi.idle hm).1, ?_⟩
      rw [e1]
      have := hao (1 - s0.now) (by omega)
      rw [(hi.idle hm).2] at this
      exact List.eq_nil_of_length_eq_zero this
    busyN := by rw [hsm.todo]; exact hi.busyN
    busyO := by
      rw [hsm.todo, hsm.now]
      intro r hr
      obtain ⟨o, hl, ha, h0⟩ := h1 r hr
      exact ⟨o, ⟨hl.1, hl.2.1, by rw [upd_other _ _ (by omega)]; exact hl.2.2⟩, ha, h0⟩
    busyR := by
      rw [hsm.moves, hsm.todo, hsm.now]
      intro hm m hr ha
      rcases h.phis m with he | ⟨he, _⟩
      · rw [he] at ha ⊢; exact hi.busyR hm m hr ha
      · rw [he] at ha; omega
    sum := by rw [hsum, h2, hsm.room]; exact hi.sum
    words0 := by rw [hsm.words]; exact hi.words0
    copied0 := by rw [hs.2, hac]; have := hi.copied0; omega
    lens := by
      intro k hk
      rw [hsm.words, hs.2, hac]
      have b := hi.lens
      by_cases ek : k = 2
      · subst ek; rw [e2]; have := hi.words0; have := hi.copied0; simp; omega
      · by_cases ekn : k = s0.now
        · subst ekn; rw [en, hal]; have := b _ hk; omega
        · have : k = 1 - s0.now := by omega
          subst this
          rw [e1, hao _ (by omega)]; have := b _ hk; omega
    live := by rw [hsm.room]; exact hi.live }

theorem nodup_map {α β : Type} {f : α → β} (l : List α) (h : l.Nodup) (hf : ∀ a ∈ l, ∀ b ∈ l, f a = f b → a = b) : (l.map f).Nodup := by
  induction l with
  | nil => simp
  | cons a l ih =>
    rw [List.nodup_cons] at h
    rw [List.map_cons, List.nodup_cons]
    refine ⟨fun hm => ?_, ih h.2 fun a ha b hb => hf a (List.mem_cons_of_mem _ ha) b (List.mem_cons_of_mem _ hb)⟩
    obtain ⟨b, hb, e⟩ := List.mem_map.1 hm
    have := hf b (List.mem_cons_of_mem _ hb) a (by simp) e
    subst this
    exact h.1 hb

/-- Rep asks of φ what it says at reachable objects. -/
theorem Rep.flip (h : Rep (fun _ => True) s G φ A) {s' : HS} (h0 : ∀ k, k < 3 → s'.ar k = s.ar k) (h1 : s'.now < 2) (h2 : s'.slots = s.slots) (h3 : s'.big = s.big) : Rep (fun _ => True) s' G φ A where
  wf := h.wf
  now := h1
  flat := fun k hk => by rw [h0 k hk]; exact h.flat k hk
  objs := by rw [h3]; exact h.objs
  slen := by rw [h2]; exact h.slen
  slot := by
    rw [h2]
    intro i x n hx hn
    have := (h.slot i x n hx hn).2 trivial
    exact ⟨.inl this, fun _ => this⟩
  obj := fun m hm => by
    obtain ⟨fs, a1, a2, a3⟩ := h.obj m hm
    refine ⟨fs, a1, a2, fun k x n hx hn => ?_⟩
    have := (a3 k x n hx hn).2 trivial
    exact ⟨.inl this, fun _ => this⟩
  inj := h.inj
  fits := h.fits

/-- **A COLLECTION OF THE OLD AREA BEGINS.** -/
theorem InvG.begin (hi : InvG s0 G0 φ0 A) (hmv : s0.moves = false) (h : WInv A none False s0 G0 φ0 D out s G φ) (ht : Through A D out) :
    let t := (out.map φ).filter fun r => aOf r == s0.now
    InvG { s with moves := true, todo := t, now := 1 - s0.now } G φ A ∧ (todoSum { s with moves := true, todo := t, now := 1 - s0.now } : Int) ≤ A.live ∧ s.ar (1 - s0.now) = [] ∧
      (∀ k, (s.ar k).length = (s0.ar k).length) ∧ s.copied = s0.copied ∧ ((∀ m, Reach A m → aOf (φ m) = s0.now) → (todoSum { s with moves := true, todo := t, now := 1 - s0.now } : Int) = A.live) := by
  intro t
  obtain ⟨hex, _⟩ := h.exact ht
  obtain ⟨c1, c2, c3⟩ := h.still (.inl rfl)
  have hn := hi.rep.now
  have hidle := hi.idle hmv
  have e1 : s.ar (1 - s0.now) = [] := by
    have := c2 (1 - s0.now)
    rw [hidle.2] at this
    exact List.eq_nil_of_length_eq_zero this
  have hmem : ∀ r ∈ t, ∃ m, Reach A m ∧ φ m = r ∧ aOf r = s0.now := by
    intro r hr
    obtain ⟨h1, h2⟩ := List.mem_filter.1 hr
    obtain ⟨m, hm, e⟩ := List.mem_map.1 h1
    exact ⟨m, h.reach m hm, e, by simpa using h2⟩
  have hhead : ∀ m, Reach A m → sizeN (headAt s (φ m)) = (A.obj m).size := by
    intro m hm
    obtain ⟨a1, _, _⟩ := hex.atPhi hm
    have hf := h.rep.fits m hm
    unfold headAt
    rw [a1]
    unfold sizeN AObj.size
    rw [refsN_hdr hf.1 (by omega), rawsN_hdr hf.1 (by omega)]
  have hsumle : ∀ (l : List Nat), (∀ m ∈ l, Reach A m) → ((((l.map φ).filter fun r => aOf r == s0.now).map fun r => sizeN (headAt s r)).sum ≤ (l.map fun m => (A.obj m).size).sum) ∧
      ((∀ m ∈ l, aOf (φ m) = s0.now) → (((l.map φ).filter fun r => aOf r == s0.now).map fun r => sizeN (headAt s r)).sum = (l.map fun m => (A.obj m).size).sum) := by
    intro l
    induction l with
    | nil => intro _; simp
    | cons m l ih =>
      intro hr
      obtain ⟨i1, i2⟩ := ih (fun k hk => hr k (List.mem_cons_of_mem _ hk))
      have hm := hhead m (hr m (by simp))
      simp only [List.map_cons, List.filter_cons, List.sum_cons]
      by_cases e : aOf (φ m) = s0.now
      · rw [if_pos (by simpa using e)]
        simp only [List.map_cons, List.sum_cons, hm]
        refine ⟨by omega, fun hall => ?_⟩
        rw [i2 (fun k hk => hall k (List.mem_cons_of_mem _ hk))]
      · rw [if_neg (by simpa using e)]
        refine ⟨by omega, fun hall => absurd (hall m (by simp)) e⟩
  have hts : todoSum { s with moves := true, todo := t, now := 1 - s0.now } = (((out.map φ).filter fun r => aOf r == s0.now).map fun r => sizeN (headAt s r)).sum := rfl
  have hlive : A.live = (out.map fun m => (A.obj m).size).sum := by unfold AHeap.live; rw [← ht.all]
  have hle : todoSum { s with moves := true, todo := t, now := 1 - s0.now } ≤ A.live := by rw [hts, hlive]; exact (hsumle out h.reach).1
  refine ⟨?_, by omega, e1, c2, c1, fun hall => ?_⟩
  · exact {
      rep := (hex.flip (s' := { s with moves := true, todo := t, now := 1 - s0.now }) (fun _ _ => rfl) (by show 1 - s0.now < 2; omega) rfl rfl).mono (fun _ _ => trivial)
      room1 := by show 256 ≤ s.room; rw [h.same.room]; exact hi.room1
      room2 := by show s.room ≤ _; rw [h.same.room]; exact hi.room2
      young1 := by show _ ≤ s.young; rw [h.same.young]; exact hi.young1
      young2 := by show s.young ≤ s.room / 16; rw [h.same.young, h.same.room]; exact hi.young2
      ylen := by show ((s.ar 2).length : Int) ≤ s.young; rw [h.same.young, c2]; exact hi.ylen
      idle := fun hm => by cases hm
      busyN := by
        show t.Nodup
        refine List.Sublist.nodup List.filter_sublist ?_
        exact nodup_map out (by rw [ht.all]; exact search_nodup A) fun a ha b hb e => h.rep.inj a b (h.reach a ha) (h.reach b hb) e
      busyO := by
        show ∀ r ∈ t, _
        intro r hr
        obtain ⟨m, hm, e, ha⟩ := hmem r hr
        obtain ⟨fs, a1, _⟩ := h.rep.obj m hm
        refine ⟨_, by rw [← e]; exact a1, ?_, ?_⟩
        · show aOf r = 1 - (1 - s0.now); omega
        · exact hdr_nonneg _ _ _
      busyR := by
        intro _ m hm ha
        have ha' : aOf (φ m) = 1 - (1 - s0.now) := ha
        show φ m ∈ t
        refine List.mem_filter.2 ⟨List.mem_map.2 ⟨m, by rw [ht.all]; exact (mem_search h.rep.wf).2 hm, rfl⟩, ?_⟩
        simp; omega
      sum := by
        show (todoSum { s with moves := true, todo := t, now := 1 - s0.now } : Int) ≤ s.room
        have h1 := hi.live
        have h2 : s.room = s0.room := h.same.room
        generalize todoSum { s with moves := true, todo := t, now := 1 - s0.now } = z at hle ⊢
        omega
      words0 := by show 0 ≤ s.words; rw [h.same.words]; exact hi.words0
      copied0 := by show 0 ≤ s.copied; rw [c1]; exact hi.copied0
      lens := by
        intro k hk
        show ((s.ar k).length : Int) ≤ s.words + s.copied
        rw [h.same.words, c1, c2]; exact hi.lens k hk
      live := by show _ ≤ s.room; rw [h.same.room]; exact hi.live }
  · have : todoSum { s with moves := true, todo := t, now := 1 - s0.now } = A.live := by rw [hts, hlive]; exact (hsumle out h.reach).2 (fun m hm => hall m (h.reach m hm))
    omega
end
end Go.Proofs.Ythjokcjdphempaa.Hp
