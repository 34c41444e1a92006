/- Plain mathematics of layer 29: the work of a collection of the old area. No program is in sight here. -/
import Derived.Test.YthjokcjdphempaaGi
namespace Go.Proofs.Ythjokcjdphempaa.Hp

section
variable {D : Ptr → Prop} {s : HS} {G : Areas} {φ : Nat → Int} {A : AHeap}

/-- **COPYING AN OBJECT THAT IS NOT REACHABLE ANY MORE.** -/
theorem Rep.copyDead (h : Rep D s G φ A) {r : Int} {o : List Int} (hl : Loc G r o) (h0 : 0 ≤ hd o) (hne : aOf r ≠ s.now) (hdead : ∀ m, Reach A m → φ m ≠ r) :
    ∃ G', Rep D (copyTo s r o) G' φ A ∧ (∀ r' o', r' ≠ r → Loc G r' o' → Loc G' r' o') := by
  have hnow := h.now
  have hk0 : 0 < o.length := List.length_pos_iff.2 (h.objs _ hl.2.1 o hl.2.2.mem).1
  obtain ⟨to, hto⟩ : ∃ to, to = enc s.now (s.ar s.now).length := ⟨_, rfl⟩
  have htop : 1 ≤ to := by rw [hto]; exact enc_pos _ _
  have hflatN := h.flat s.now (by omega)
  obtain ⟨os', e1, e2, e3, e4, pre, post, e5, e6, e7⟩ := hl.2.2.put (h.ne hl.2.1) hk0 (-to)
  rw [Nat.add_zero] at e1
  have hhead : hd (o.set 0 (-to)) = -to := by
    cases o with
    | nil => simp at hk0
    | cons x o => simp [hd]
  obtain ⟨G', hG⟩ : ∃ G', G' = upd (upd G s.now (G s.now ++ [o])) (aOf r) os' := ⟨_, rfl⟩
  have gA : G' (aOf r) = os' := by rw [hG, upd_same]
  have gN : G' s.now = G s.now ++ [o] := by rw [hG, upd_other _ _ (Ne.symm hne), upd_same]
  have gO : ∀ k, k ≠ aOf r → k ≠ s.now → G' k = G k := fun k h1 h2 => by rw [hG, upd_other _ _ h1, upd_other _ _ h2]
  have hloc : ∀ r' o', r' ≠ r → Loc G r' o' → Loc G' r' o' := by
    intro r' o' hr ⟨r1, r2, r3⟩
    refine ⟨r1, r2, ?_⟩
    by_cases ea : aOf r' = aOf r
    · rw [ea, gA]
      have hp : pOf r' ≠ pOf r := by
        intro ep
        apply hr
        rw [← enc_of r1, ← enc_of hl.1, ea, ep]
      rw [ea] at r3
      exact (e4 _ _ hp).2 r3
    · by_cases en : aOf r' = s.now
      · rw [en, gN]; rw [en] at r3; exact r3.snoc o
      · rw [gO _ ea en]; exact r3
  have href : ∀ x n, RefOk G φ s.now x n → RefOk G' φ s.now x n := by
    intro x n hx
    rcases hx with rfl | ⟨m', o', rfl, hlx, hox, hpx, hnx⟩
    · exact .inl rfl
    · refine .inr ⟨m', o', rfl, hloc x o' ?_ hlx, hox, hpx, hnx⟩
      intro e
      subst e
      have := HasObj.unique (h.ne hl.2.1) hl.2.2 hlx.2.2
      subst this
      omega
  refine ⟨G', ?_, hloc⟩
  exact {
    wf := h.wf
    now := by rw [copyTo_now.1]; exact h.now
    flat := by
      intro k hk
      by_cases ea : k = aOf r
      · subst ea; rw [copyTo_ar_a hl.2.1, gA, e1, ← hto, h.flat _ hk]
      · by_cases en : k = s.now
        · subst en; rw [copyTo_ar_now hnow hl.2.1 hne, gN, hflatN]; simp
        · rw [copyTo_ar_other hnow hl.2.1 hk ea en, gO k ea en]; exact h.flat k hk
    objs := by
      rw [copyTo_big]
      intro k hk x hx
      by_cases ea : k = aOf r
      · subst ea
        rw [gA] at hx
        rw [e6] at hx
        refine ⟨e2 x (by rw [e6]; exact hx), ?_⟩
        rcases List.mem_append.1 hx with hx | hx
        · exact (h.objs _ hk x (by rw [e5]; simp [hx])).2
        · rcases List.mem_cons.1 hx with rfl | hx
          · exact ⟨by rw [List.length_set]; exact (h.objs _ hk o (by rw [e5]; simp)).2.1, fun h0 => by rw [hhead] at h0; omega⟩
          · exact (h.objs _ hk x (by rw [e5]; simp [hx])).2
      · by_cases en : k = s.now
        · subst en
          rw [gN] at hx
          rcases List.mem_append.1 hx with hx | hx
          · exact h.objs _ hk x hx
          · simp at hx; subst hx; exact h.objs _ hl.2.1 x hl.2.2.mem
        · rw [gO k ea en] at hx; exact h.objs k hk x hx
    slen := by rw [copyTo_now.2]; exact h.slen
    slot := by
      intro i x n hx hn
      rw [copyTo_now.2] at hx
      rw [copyTo_now.1]
      obtain ⟨h1, h2⟩ := h.slot i x n hx hn
      exact ⟨href x n h1, h2⟩
    obj := by
      intro m' hm'
      rw [copyTo_now.1]
      obtain ⟨fs', hl', hfl', hfs'⟩ := h.obj m' hm'
      refine ⟨fs', hloc _ _ (hdead m' hm') hl', hfl', ?_⟩
      intro k x n hx hn
      obtain ⟨h1, h2⟩ := hfs' k x n hx hn
      exact ⟨href x n h1, h2⟩
    inj := h.inj
    fits := h.fits }

theorem copyTo_todo {r : Int} {o : List Int} : (copyTo s r o).todo = s.todo := by
  show ((s.setAr _ _).setAr _ _).todo = s.todo
  rw [(setAr_now _ _ _).2.2, (setAr_now _ _ _).2.2]

/-- The numbers of one copy. -/
theorem copyTo_lens {r : Int} {o : List Int} (hn : s.now < 2) (ha : aOf r < 3) (hne : aOf r ≠ s.now) :
    ((copyTo s r o).ar s.now).length = (s.ar s.now).length + o.length ∧ ∀ k, k < 3 → k ≠ s.now → ((copyTo s r o).ar k).length = (s.ar k).length := by
  refine ⟨by rw [copyTo_ar_now hn ha hne, List.length_append], fun k hk hkn => ?_⟩
  by_cases e : k = aOf r
  · subst e; rw [copyTo_ar_a ha]; simp
  · rw [copyTo_ar_other hn ha hk e hkn]

/-- **ONE OBJECT OF THOSE THAT ARE TO BE COPIED IS COPIED.** -/
theorem InvG.work (hi : InvG s G φ A) {r : Int} {rest : List Int} (hm : s.moves = true) (ht : s.todo = r :: rest) :
    ∃ o G' φ', Loc G r o ∧ 0 ≤ hd o ∧ aOf r = 1 - s.now ∧ o.length = sizeN (headAt s r) ∧ o.length ≤ s.big ∧ InvG { copyTo s r o with todo := rest } G' φ' A ∧
      todoSum { copyTo s r o with todo := rest } + o.length = todoSum s ∧ (∀ m, φ' m = φ m ∨ aOf (φ' m) = s.now) := by
  obtain ⟨o, hl, ha, h0⟩ := hi.busyO r (by rw [ht]; simp)
  have hn := hi.rep.now
  have hne : aOf r ≠ s.now := by omega
  have hob := hi.rep.objs _ hl.2.1 o hl.2.2.mem
  have hsz : o.length = sizeN (headAt s r) := by rw [headAt_loc hi.rep hl]; exact hob.2.2 h0
  have hnd := hi.busyN
  rw [ht, List.nodup_cons] at hnd
  have hcase : ∃ G' φ', Rep (fun _ => False) (copyTo s r o) G' φ' A ∧ (∀ r' o', r' ≠ r → Loc G r' o' → Loc G' r' o') ∧ (∀ m, Reach A m → aOf (φ' m) = 1 - s.now → φ' m ∈ rest) ∧ (∀ m, φ' m = φ m ∨ aOf (φ' m) = s.now) := by
    by_cases hex : ∃ m, Reach A m ∧ φ m = r
    · obtain ⟨m, hmr, e⟩ := hex
      obtain ⟨o', G', hl', _, _, hr, _, _, _, _, hloc⟩ := hi.rep.copy hmr (by rw [e]; exact hne) (fun _ _ _ hd => hd.elim) (fun _ _ _ _ _ hd => hd.elim)
      rw [e] at hl' hr hloc
      have := HasObj.unique (hi.rep.ne hl.2.1) hl.2.2 hl'.2.2
      subst this
      refine ⟨G', _, hr, hloc, ?_, fun k => ?_⟩
      rotate_left
      · by_cases ek : k = m
        · right
          simp only [move1, ek, if_true]
          exact aOf_enc _ (by omega)
        · left; simp only [move1, if_neg ek]
      intro k hk hak
      by_cases ek : k = m
      · subst ek
        simp only [move1, if_true] at hak
        rw [aOf_enc _ (by omega)] at hak
        omega
      · simp only [move1, if_neg ek] at hak ⊢
        have := hi.busyR hm k hk hak
        rw [ht] at this
        rcases List.mem_cons.1 this with h1 | h1
        · exact absurd (hi.rep.inj k m hk hmr (by rw [h1, e])) ek
        · exact h1
    · obtain ⟨G', hr, hloc⟩ := hi.rep.copyDead hl h0 hne (fun m hmr e => hex ⟨m, hmr, e⟩)
      refine ⟨G', φ, hr, hloc, ?_, fun _ => .inl rfl⟩
      intro k hk hak
      have := hi.busyR hm k hk hak
      rw [ht] at this
      rcases List.mem_cons.1 this with h1 | h1
      · exact absurd ⟨k, hk, h1⟩ hex
      · exact h1
  obtain ⟨G', φ', hr, hloc, hbr, hphi⟩ := hcase
  have hsm := same_copyTo s r o
  obtain ⟨l1, l2⟩ := copyTo_lens (o := o) hn hl.2.1 hne
  have hhd : ∀ r' ∈ rest, headAt (copyTo s r o) r' = headAt s r' := by
    intro r' hr'
    have hne' : r' ≠ r := fun e => hnd.1 (e ▸ hr')
    obtain ⟨o', hl', _⟩ := hi.busyO r' (by rw [ht]; exact List.mem_cons_of_mem _ hr')
    rw [headAt_loc hi.rep hl', headAt_loc hr (hloc r' o' hne' hl')]
  have hts : todoSum { copyTo s r o with todo := rest } + o.length = todoSum s := by
    have e1 : todoSum { copyTo s r o with todo := rest } = (rest.map fun r' => sizeN (headAt (copyTo s r o) r')).sum := rfl
    have e2 : todoSum s = sizeN (headAt s r) + (rest.map fun r' => sizeN (headAt s r')).sum := by unfold todoSum; rw [ht]; simp
    rw [e1, e2, ← hsz, List.map_congr_left (fun r' hr' => by rw [hhd r' hr'])]
    omega
  have hsum := hi.sum
  refine ⟨o, G', φ', hl, h0, ha, hsz, hob.2.1, ?_, hts, hphi⟩
  exact {
    rep := hr.congr (fun _ _ => rfl) rfl rfl rfl
    room1 := by show 256 ≤ (copyTo s r o).room; rw [hsm.room]; exact hi.room1
    room2 := by show (copyTo s r o).room ≤ _; rw [hsm.room]; exact hi.room2
    young1 := by show _ ≤ (copyTo s r o).young; rw [hsm.young]; exact hi.young1
    young2 := by show (copyTo s r o).young ≤ (copyTo s r o).room / 16; rw [hsm.young, hsm.room]; exact hi.young2
    ylen := by show (((copyTo s r o).ar 2).length : Int) ≤ (copyTo s r o).young; rw [hsm.young, l2 2 (by omega) (by omega)]; exact hi.ylen
    idle := fun h' => by
      have : (copyTo s r o).moves = false := h'
      rw [hsm.moves, hm] at this
      cases this
    busyN := hnd.2
    busyO := by
      show ∀ r' ∈ rest, ∃ o', Loc G' r' o' ∧ aOf r' = 1 - (copyTo s r o).now ∧ 0 ≤ hd o'
      rw [hsm.now]
      intro r' hr'
      obtain ⟨o', hl', ha', h0'⟩ := hi.busyO r' (by rw [ht]; exact List.mem_cons_of_mem _ hr')
      exact ⟨o', hloc r' o' (fun e => hnd.1 (e ▸ hr')) hl', ha', h0'⟩
    busyR := by
      intro _ m hmr ha'
      have ha'' : aOf (φ' m) = 1 - (copyTo s r o).now := ha'
      rw [hsm.now] at ha''
      exact hbr m hmr ha''
    sum := by
      show (todoSum { copyTo s r o with todo := rest } : Int) ≤ (copyTo s r o).room
      rw [hsm.room]; omega
    words0 := by show 0 ≤ (copyTo s r o).words; rw [hsm.words]; exact hi.words0
    copied0 := by show 0 ≤ s.copied + (o.length : Int); have := hi.copied0; omega
    lens := by
      intro k hk
      show (((copyTo s r o).ar k).length : Int) ≤ (copyTo s r o).words + (s.copied + (o.length : Int))
      rw [hsm.words]
      have b := hi.lens k hk
      by_cases ek : k = s.now
      · subst ek; rw [l1]; omega
      · rw [l2 k hk ek]; omega
    live := by show _ ≤ (copyTo s r o).room; rw [hsm.room]; exact hi.live }

/-- **A COLLECTION OF THE OLD AREA ENDS**: nothing is copied at its end. -/
theorem InvG.ends {s0 : HS} {G0 : Areas} {φ0 : Nat → Int} {out : List Nat} (hi : InvG s0 G0 φ0 A) (hm : s0.todo = [])
    (h : WInv A (some (1 - s0.now)) True s0 G0 φ0 D out s G φ) (ht : Through A D out) (mj : Int) :
    InvG { s.setAr (1 - s0.now) [] with moves := false, majors := mj } (upd G (1 - s0.now) []) φ A ∧ s.copied = s0.copied ∧ (∀ k, (s.ar k).length = (s0.ar k).length) ∧ φ = φ0 ∧
      (∀ m, Reach A m → aOf (φ m) ≠ 1 - s0.now) := by
  obtain ⟨hex, hoff⟩ := h.exact ht
  have hoff' : ∀ m, Reach A m → aOf (φ m) ≠ 1 - s0.now := fun m hm => hoff m hm _ rfl
  have hn := hi.rep.now
  obtain ⟨c1, c2, c3⟩ := h.still (.inr trivial)
  have hrep := hex.clear (by omega) hoff'
  have hs := same_setAr s (1 - s0.now) []
  have hsm := h.same.trans hs.1
  have htd : (s.setAr (1 - s0.now) []).todo = [] := by rw [hsm.todo]; exact hm
  have eo : ∀ k, k < 3 → k ≠ 1 - s0.now → (s.setAr (1 - s0.now) []).ar k = s.ar k := fun k hk hne => ar_setAr_other _ _ (by omega) hk hne
  have e1 : (s.setAr (1 - s0.now) []).ar (1 - s0.now) = [] := ar_setAr_same _ _ (by omega)
  refine ⟨?_, c1, c2, c3, hoff'⟩
  exact {
    rep := (hrep.mono (fun _ _ => trivial)).congr (fun _ _ => rfl) rfl rfl rfl
    room1 := by show 256 ≤ (s.setAr (1 - s0.now) []).room; rw [hsm.room]; exact hi.room1
    room2 := by show (s.setAr (1 - s0.now) []).room ≤ _; rw [hsm.room]; exact hi.room2
    young1 := by show _ ≤ (s.setAr (1 - s0.now) []).young; rw [hsm.young]; exact hi.young1
    young2 := by show (s.setAr (1 - s0.now) []).young ≤ (s.setAr (1 - s0.now) []).room / 16; rw [hsm.young, hsm.room]; exact hi.young2
    ylen := by show (((s.setAr (1 - s0.now) []).ar 2).length : Int) ≤ (s.setAr (1 - s0.now) []).young; rw [hsm.young, eo 2 (by omega) (by omega), c2]; exact hi.ylen
    idle := fun _ => ⟨htd, by show (s.setAr (1 - s0.now) []).ar (1 - (s.setAr (1 - s0.now) []).now) = []; rw [hsm.now]; exact e1⟩
    busyN := by show (s.setAr (1 - s0.now) []).todo.Nodup; rw [htd]; exact List.nodup_nil
    busyO := by show ∀ r ∈ (s.setAr (1 - s0.now) []).todo, _; rw [htd]; intro r hr; cases hr
    busyR := fun h' => by cases h'
    sum := by
      have : todoSum { s.setAr (1 - s0.now) [] with moves := false, majors := mj } = 0 := by
        unfold todoSum
        show ((s.setAr (1 - s0.now) []).todo.map _).sum = 0
        rw [htd]; rfl
      rw [this]
      show (0 : Int) ≤ (s.setAr (1 - s0.now) []).room
      rw [hsm.room]; have := hi.room1; omega
    words0 := by show 0 ≤ (s.setAr (1 - s0.now) []).words; rw [hsm.words]; exact hi.words0
    copied0 := by show 0 ≤ (s.setAr (1 - s0.now) []).copied; rw [hs.2, c1]; exact hi.copied0
    lens := by
      intro k hk
      show (((s.setAr (1 - s0.now) []).ar k).length : Int) ≤ (s.setAr (1 - s0.now) []).words + (s.setAr (1 - s0.now) []).copied
      rw [hsm.words, hs.2, c1]
      by_cases ek : k = 1 - s0.now
      · subst ek; rw [e1]; have := hi.words0; have := hi.copied0; simp; omega
      · rw [eo k hk ek, c2]; exact hi.lens k hk
    live := by show _ ≤ (s.setAr (1 - s0.now) []).room; rw [hsm.room]; exact hi.live }
end
end Go.Proofs.Ythjokcjdphempaa.Hp
