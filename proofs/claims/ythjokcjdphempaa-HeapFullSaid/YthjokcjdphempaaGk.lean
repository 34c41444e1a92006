/- Plain mathematics of layer 29: what the methods of the heap do to what holds of it. No program is in sight here. -/
import Derived.Test.YthjokcjdphempaaGj
namespace Go.Proofs.Ythjokcjdphempaa.Hp

/-! ### Live never grows where less is reachable -/

theorem sum_le_subset (f : Nat → Nat) : ∀ (l l' : List Nat), l.Nodup → (∀ x ∈ l, x ∈ l') → (l.map f).sum ≤ (l'.map f).sum := by
  intro l
  induction l with
  | nil => intro l' _ _; simp
  | cons a l ih =>
    intro l' hn hs
    rw [List.nodup_cons] at hn
    obtain ⟨p, q, e⟩ := List.append_of_mem (hs a (by simp))
    have h2 := ih (p ++ q) hn.2 (fun x hx => by
      have := hs x (List.mem_cons_of_mem _ hx)
      rw [e] at this
      simp only [List.mem_append, List.mem_cons] at this ⊢
      rcases this with h | h | h
      · exact .inl h
      · subst h; exact absurd hx hn.1
      · exact .inr h)
    rw [e]
    simp only [List.map_cons, List.sum_cons, List.map_append, List.sum_append] at h2 ⊢
    omega

theorem live_le {A A' : AHeap} (hA : A.Wf) (hr : ∀ m, Reach A' m → Reach A m ∧ (A'.obj m).size = (A.obj m).size) : A'.live ≤ A.live := by
  unfold AHeap.live
  have h1 : (A'.search.map fun m => (A'.obj m).size) = A'.search.map fun m => (A.obj m).size := by
    apply List.map_congr_left
    intro m hm
    exact (hr m (outAt_reach A' _ m hm)).2
  rw [h1]
  exact sum_le_subset (fun m => (A.obj m).size) _ _ (search_nodup A') fun m hm => (mem_search hA).2 (hr m (outAt_reach A' _ m hm)).1

/-- One object more at the most. -/
theorem live_le_new {A A' : AHeap} (hA : A.Wf) {n k : Nat} (hnew : ¬ Reach A n) (hr : ∀ m, Reach A' m → (Reach A m ∧ (A'.obj m).size = (A.obj m).size) ∨ (m = n ∧ (A'.obj m).size = k)) : A'.live ≤ A.live + k := by
  unfold AHeap.live
  have h0 : ((A'.search.filter fun m => m != n).map fun m => (A'.obj m).size).sum ≤ (A.search.map fun m => (A.obj m).size).sum := by
    have h1 : ((A'.search.filter fun m => m != n).map fun m => (A'.obj m).size) = (A'.search.filter fun m => m != n).map fun m => (A.obj m).size := by
      apply List.map_congr_left
      intro m hm
      obtain ⟨h1, h2⟩ := List.mem_filter.1 hm
      rcases hr m (outAt_reach A' _ m h1) with h | ⟨h, _⟩
      · exact h.2
      · subst h; simp at h2
    rw [h1]
    refine sum_le_subset (fun m => (A.obj m).size) _ _ (List.Sublist.nodup List.filter_sublist (search_nodup A')) fun m hm => ?_
    obtain ⟨h1, h2⟩ := List.mem_filter.1 hm
    rcases hr m (outAt_reach A' _ m h1) with h | ⟨h, _⟩
    · exact (mem_search hA).2 h.1
    · subst h; simp at h2
  by_cases hn : n ∈ A'.search
  · have hk : (A'.obj n).size = k := by
      rcases hr n (outAt_reach A' _ n hn) with h | ⟨_, h⟩
      · exact absurd h.1 hnew
      · exact h
    have h2 := sum_le_subset (fun m => (A'.obj m).size) A'.search (n :: A'.search.filter fun m => m != n) (search_nodup A') (fun m hm => by
      by_cases e : m = n
      · subst e; simp
      · exact List.mem_cons_of_mem _ (List.mem_filter.2 ⟨hm, by simpa using e⟩))
    simp only [List.map_cons, List.sum_cons, hk] at h2
    omega
  · have h2 := sum_le_subset (fun m => (A'.obj m).size) A'.search (A'.search.filter fun m => m != n) (search_nodup A') (fun m hm =>
      List.mem_filter.2 ⟨hm, by
        have : m ≠ n := fun e => hn (e ▸ hm)
        simpa using this⟩)
    omega

section
variable {D : Ptr → Prop} {s : HS} {G : Areas} {φ : Nat → Int} {A : AHeap}

/-- What a step keeps that copies nothing and makes nothing. -/
theorem InvG.keeps (hi : InvG s G φ A) {s' : HS} {G' : Areas} {A' : AHeap} (hs : Same s s') (hc : s'.copied = s.copied) (hl : ∀ k, (s'.ar k).length = (s.ar k).length)
    (hrep : Rep (fun _ => False) s' G' φ A') (hk : Kept G G') (hr : ∀ m, Reach A' m → Reach A m) (hlive : A'.live ≤ A.live) : InvG s' G' φ A' ∧ todoSum s' = todoSum s := by
  have key : ∀ r ∈ s.todo, ∃ o, Loc G' r o ∧ aOf r = 1 - s.now ∧ 0 ≤ hd o ∧ headAt s' r = headAt s r := by
    intro r hr
    obtain ⟨o, h1, h2, h3⟩ := hi.busyO r hr
    obtain ⟨o', h4, h5, h6⟩ := hk.loc r o h1
    exact ⟨o', h4, h2, by rw [h5]; exact h3, by rw [headAt_loc hrep h4, headAt_loc hi.rep h1, h5]⟩
  have hts : todoSum s' = todoSum s := by
    unfold todoSum
    rw [hs.todo]
    congr 1
    apply List.map_congr_left
    intro r hr
    obtain ⟨o, _, _, _, h4⟩ := key r hr
    rw [h4]
  refine ⟨?_, hts⟩
  exact {
    rep := hrep
    room1 := by rw [hs.room]; exact hi.room1
    room2 := by rw [hs.room]; exact hi.room2
    young1 := by rw [hs.young]; exact hi.young1
    young2 := by rw [hs.young, hs.room]; exact hi.young2
    ylen := by rw [hs.young, hl]; exact hi.ylen
    idle := by
      rw [hs.moves, hs.todo, hs.now]
      intro hm
      refine ⟨(hi.idle hm).1, ?_⟩
      have := hl (1 - s.now)
      rw [(hi.idle hm).2] at this
      exact List.eq_nil_of_length_eq_zero this
    busyN := by rw [hs.todo]; exact hi.busyN
    busyO := by
      rw [hs.todo, hs.now]
      intro r hr
      obtain ⟨o, h1, h2, h3, _⟩ := key r hr
      exact ⟨o, h1, h2, h3⟩
    busyR := by
      rw [hs.todo, hs.now, hs.moves]
      exact fun hm m hmr ha => hi.busyR hm m (hr m hmr) ha
    sum := by rw [hts, hs.room]; exact hi.sum
    words0 := by rw [hs.words]; exact hi.words0
    copied0 := by rw [hc]; exact hi.copied0
    lens := by intro k hk; rw [hs.words, hc, hl]; exact hi.lens k hk
    live := by rw [hs.room]; have := hi.live; omega }

theorem Kept.refl (G : Areas) : Kept G G := ⟨fun _ o h => ⟨o, h, rfl, rfl⟩, fun _ => rfl, fun _ => rfl⟩

theorem same_slots (s : HS) (l : List Int) : Same s { s with slots := l } := ⟨rfl, rfl, rfl, rfl, rfl, rfl, rfl, rfl, rfl, rfl, rfl, rfl⟩

/-- A slot is set to what x stands for. -/
theorem InvG.setSlot (hi : InvG s G φ A) {i n : Nat} {x : Int} (hx : RefOk G φ s.now x n) (hn : ∀ j, n = j + 1 → Reach A j) :
    InvG { s with slots := s.slots.set i x } G φ (A.setSlot i n) ∧ todoSum { s with slots := s.slots.set i x } = todoSum s :=
  hi.keeps (same_slots s _) rfl (fun _ => rfl) ((hi.rep.setSlot hx hn).mono (fun _ h => h.elim)) (Kept.refl G) (fun _ h => reach_setSlot hn h)
    (live_le hi.rep.wf fun _ h => ⟨reach_setSlot hn h, rfl⟩)

/-- A reference of an object is set to what x stands for. -/
theorem InvG.setRef (hi : InvG s G φ A) {m k n : Nat} {x : Int} (hm : Reach A m) (hk : k < (A.obj m).refs.length) (hx : RefOk G φ s.now x n) (hn : ∀ j, n = j + 1 → Reach A j) :
    ∃ G', InvG (fieldSet s (φ m) k x) G' φ (A.setRef m k n) ∧ todoSum (fieldSet s (φ m) k x) = todoSum s := by
  obtain ⟨G', hr, hkept, _⟩ := hi.rep.setRef hm hk hx hn
  have hml := hm.lt hi.rep.wf
  have hs := same_setAr s (aOf (φ m)) ((s.ar (aOf (φ m))).set (pOf (φ m) + (k + 1)) x)
  refine ⟨G', hi.keeps hs.1 hs.2 (len_setAr s _ _ (by simp)) (hr.mono (fun _ h => h.elim)) hkept (fun _ h => reach_setRef hml hn h) (live_le hi.rep.wf fun j h => ⟨reach_setRef hml hn h, ?_⟩)⟩
  rw [obj_setRef A m k n j hml]
  split
  · rename_i e; subst e; simp [AObj.size]
  · rfl

theorem Rep.setRaw (h : Rep D s G φ A) {m k : Nat} {v : Int} (hm : Reach A m) (hk : k < (A.obj m).raws.length) :
    ∃ G', Rep D (s.setAr (aOf (φ m)) ((s.ar (aOf (φ m))).set (pOf (φ m) + (1 + (A.obj m).refs.length + k)) v)) G' φ (A.setRaw m k v) ∧ Kept G G' := by
  have hml := hm.lt h.wf
  have hr : ∀ j, Reach (A.setRaw m k v) j → Reach A j := fun j hj => (reach_setRaw hml).1 hj
  obtain ⟨fs, hl, hfl, hfs⟩ := h.obj m hm
  have hnn := hdr_nonneg (A.obj m).tag (A.obj m).refs.length (A.obj m).raws.length
  have hlen : 1 + (A.obj m).refs.length + k < (hdr (A.obj m).tag (A.obj m).refs.length (A.obj m).raws.length :: (fs ++ (A.obj m).raws)).length := by simp; omega
  obtain ⟨G', hkept, hself, hoth, hflat, hwf, hG⟩ := putWord h hl (by omega) hlen v
  have href : ∀ y b, RefOk G φ s.now y b → RefOk G' φ s.now y b := fun y b => RefOk.put (by show 0 ≤ _; simpa [hd] using hnn) (h.ne hl.2.1) hl hoth
  have hset : (hdr (A.obj m).tag (A.obj m).refs.length (A.obj m).raws.length :: (fs ++ (A.obj m).raws)).set (1 + (A.obj m).refs.length + k) v = hdr (A.obj m).tag (A.obj m).refs.length (A.obj m).raws.length :: (fs ++ (A.obj m).raws.set k v) := by
    rw [show 1 + (A.obj m).refs.length + k = ((A.obj m).refs.length + k) + 1 by omega, List.set_cons_succ]
    rw [List.set_append, if_neg (by omega), hfl]
    congr 3
    omega
  rw [hset] at hself
  refine ⟨G', ?_, hkept⟩
  exact {
    wf := by
      refine ⟨?_, ?_⟩
      · intro y hy
        have := h.wf.1 y hy
        show y ≤ (A.objs.modify m _).length
        simpa using this
      · intro o ho y hy
        show y ≤ (A.objs.modify m _).length
        rw [List.length_modify]
        obtain ⟨j, hjo⟩ := List.mem_iff_getElem?.1 ho
        have hj : j < (A.objs.modify m fun o => { o with raws := o.raws.set k v }).length := (List.getElem?_eq_some_iff.1 hjo).1
        have ho' : o = (A.setRaw m k v).obj j := by unfold AHeap.obj; rw [List.getD_eq_getElem?_getD, hjo]; rfl
        rw [ho', obj_setRaw A m k v j hml] at hy
        have hj' : j < A.objs.length := by simpa using hj
        have hob : ∀ j, j < A.objs.length → A.obj j ∈ A.objs := fun j hj => by unfold AHeap.obj; rw [List.getD_eq_getElem?_getD, List.getElem?_eq_getElem hj]; exact List.getElem_mem hj
        split at hy
        · exact h.wf.2 _ (hob m hml) y hy
        · exact h.wf.2 _ (hob j hj') y hy
    now := by rw [(setAr_now _ _ _).1]; exact h.now
    flat := hflat
    objs := by rw [setAr_big]; exact hwf
    slen := by rw [(setAr_now _ _ _).2.1]; exact h.slen
    slot := by
      intro j y b hy hb
      rw [(setAr_now _ _ _).2.1] at hy
      rw [(setAr_now _ _ _).1]
      obtain ⟨h1, h2⟩ := h.slot j y b hy hb
      exact ⟨href y b h1, h2⟩
    obj := by
      intro j hj
      rw [(setAr_now _ _ _).1]
      rw [obj_setRaw A m k v j hml]
      by_cases e : j = m
      · subst e
        rw [if_pos rfl]
        refine ⟨fs, by simpa using hself, hfl, ?_⟩
        intro i y b hy hb
        obtain ⟨h1, h2⟩ := hfs i y b hy hb
        exact ⟨href y b h1, h2⟩
      · rw [if_neg e]
        obtain ⟨fs', hl', hfl', hfs'⟩ := h.obj j (hr j hj)
        refine ⟨fs', hoth _ _ (fun e' => e (h.inj _ _ (hr j hj) hm e')) hl', hfl', ?_⟩
        intro i y b hy hb
        obtain ⟨h1, h2⟩ := hfs' i y b hy hb
        exact ⟨href y b h1, h2⟩
    inj := fun a b ha hb e => h.inj a b (hr a ha) (hr b hb) e
    fits := by
      intro j hj
      have := h.fits j (hr j hj)
      rw [obj_setRaw A m k v j hml]
      split
      · rename_i e; subst e; simpa using this
      · exact this }

/-- A word of an object is set. -/
theorem InvG.setRaw (hi : InvG s G φ A) {m k : Nat} {v : Int} (hm : Reach A m) (hk : k < (A.obj m).raws.length) :
    ∃ G', InvG (s.setAr (aOf (φ m)) ((s.ar (aOf (φ m))).set (pOf (φ m) + (1 + (A.obj m).refs.length + k)) v)) G' φ (A.setRaw m k v) ∧
      todoSum (s.setAr (aOf (φ m)) ((s.ar (aOf (φ m))).set (pOf (φ m) + (1 + (A.obj m).refs.length + k)) v)) = todoSum s := by
  obtain ⟨G', hr, hkept⟩ := hi.rep.setRaw (v := v) hm hk
  have hml := hm.lt hi.rep.wf
  have hs := same_setAr s (aOf (φ m)) ((s.ar (aOf (φ m))).set (pOf (φ m) + (1 + (A.obj m).refs.length + k)) v)
  refine ⟨G', hi.keeps hs.1 hs.2 (len_setAr s _ _ (by simp)) hr hkept (fun _ h => (reach_setRaw hml).1 h) (live_le hi.rep.wf fun j h => ⟨(reach_setRaw hml).1 h, ?_⟩)⟩
  rw [obj_setRaw A m k v j hml]
  split
  · rename_i e; subst e; simp [AObj.size]
  · rfl

/-! ### Slots come and go -/

def AHeap.grow (A : AHeap) (n : Nat) : AHeap := { A with slots := A.slots ++ List.replicate n 0 }
def AHeap.shrink (A : AHeap) (n : Nat) : AHeap := { A with slots := A.slots.take (A.slots.length - n) }

theorem reach_mono {A A' : AHeap} (h0 : ∀ n, n + 1 ∈ A'.slots → n + 1 ∈ A.slots) (h1 : A'.objs = A.objs) {m : Nat} (h : Reach A' m) : Reach A m := by
  have ho : ∀ m, A'.obj m = A.obj m := fun m => by unfold AHeap.obj; rw [h1]
  induction h with
  | slot h => exact .slot (h0 _ h)
  | @ref a b _ hb ih => rw [ho] at hb; exact .ref ih hb

theorem Rep.slots (h : Rep D s G φ A) {A' : AHeap} {l : List Int} (h1 : A'.objs = A.objs) (h2 : ∀ n, n + 1 ∈ A'.slots → n + 1 ∈ A.slots) (hl : l.length = A'.slots.length)
    (hs : ∀ (i : Nat) (x : Int) (n : Nat), l[i]? = some x → A'.slots[i]? = some n → (s.slots[i]? = some x ∧ A.slots[i]? = some n) ∨ (x = 0 ∧ n = 0)) : Rep D { s with slots := l } G φ A' := by
  have ho : ∀ m, A'.obj m = A.obj m := fun m => by unfold AHeap.obj; rw [h1]
  have hr : ∀ m, Reach A' m → Reach A m := fun m => reach_mono h2 h1
  exact {
    wf := by
      refine ⟨fun n hn => ?_, by rw [h1]; exact h.wf.2⟩
      rw [h1]
      cases n with
      | zero => omega
      | succ n => exact h.wf.1 _ (h2 n hn)
    now := h.now
    flat := h.flat
    objs := h.objs
    slen := hl
    slot := by
      intro i x n hx hn
      rcases hs i x n hx hn with ⟨e1, e2⟩ | ⟨e1, e2⟩
      · exact h.slot i x n e1 e2
      · subst e1; subst e2; exact ⟨.inl rfl, fun _ => rfl⟩
    obj := by
      intro m hm
      rw [ho]
      exact h.obj m (hr m hm)
    inj := fun a b ha hb e => h.inj a b (hr a ha) (hr b hb) e
    fits := fun m hm => by rw [ho]; exact h.fits m (hr m hm) }

theorem InvG.grow (hi : InvG s G φ A) (n : Nat) : InvG { s with slots := s.slots ++ List.replicate n 0 } G φ (A.grow n) ∧ todoSum { s with slots := s.slots ++ List.replicate n 0 } = todoSum s := by
  have h2 : ∀ k, k + 1 ∈ (A.grow n).slots → k + 1 ∈ A.slots := by
    intro k hk
    rcases List.mem_append.1 hk with h | h
    · exact h
    · have := (List.mem_replicate.1 h).2; omega
  refine hi.keeps (same_slots s _) rfl (fun _ => rfl) (hi.rep.slots rfl h2 ?_ ?_) (Kept.refl G) (fun _ h => reach_mono h2 rfl h) (live_le hi.rep.wf fun _ h => ⟨reach_mono h2 rfl h, rfl⟩)
  · simp [AHeap.grow, hi.rep.slen]
  · intro i x k hx hk
    have hk' : (A.slots ++ List.replicate n 0)[i]? = some k := hk
    have hsl := hi.rep.slen
    by_cases hlt : i < s.slots.length
    · rw [List.getElem?_append_left hlt] at hx
      rw [List.getElem?_append_left (by omega)] at hk'
      exact .inl ⟨hx, hk'⟩
    · rw [List.getElem?_append_right (by omega)] at hx
      rw [List.getElem?_append_right (by omega)] at hk'
      rw [List.getElem?_replicate] at hx hk'
      split at hx
      · split at hk'
        · cases hx; cases hk'; exact .inr ⟨rfl, rfl⟩
        · cases hk'
      · cases hx

theorem InvG.shrink (hi : InvG s G φ A) (n : Nat) : InvG { s with slots := s.slots.take (s.slots.length - n) } G φ (A.shrink n) ∧ todoSum { s with slots := s.slots.take (s.slots.length - n) } = todoSum s := by
  have h2 : ∀ k, k + 1 ∈ (A.shrink n).slots → k + 1 ∈ A.slots := fun k hk => List.mem_of_mem_take hk
  have hsl := hi.rep.slen
  refine hi.keeps (same_slots s _) rfl (fun _ => rfl) (hi.rep.slots rfl h2 ?_ ?_) (Kept.refl G) (fun _ h => reach_mono h2 rfl h) (live_le hi.rep.wf fun _ h => ⟨reach_mono h2 rfl h, rfl⟩)
  · simp [AHeap.shrink, hsl]
  · intro i x k hx hk
    have hk' : (A.slots.take (A.slots.length - n))[i]? = some k := hk
    rw [List.getElem?_take] at hx hk'
    split at hx
    · split at hk'
      · exact .inl ⟨hx, hk'⟩
      · cases hk'
    · cases hx

/-! ### An object is made -/

def newWords (tag refs raws : Nat) : List Int := hdr tag refs raws :: List.replicate (refs + raws) 0

def AHeap.make (A : AHeap) (to tag refs raws : Nat) : AHeap :=
  { slots := A.slots.set to (A.objs.length + 1), objs := A.objs ++ [⟨tag, List.replicate refs 0, List.replicate raws 0⟩] }

theorem obj_make (A : AHeap) (to tag refs raws j : Nat) : (A.make to tag refs raws).obj j = if j = A.objs.length then ⟨tag, List.replicate refs 0, List.replicate raws 0⟩ else A.obj j := by
  unfold AHeap.make AHeap.obj
  simp only [List.getD_eq_getElem?_getD]
  by_cases h : j = A.objs.length
  · subst h; simp
  · rw [if_neg h]
    by_cases hl : j < A.objs.length
    · rw [List.getElem?_append_left hl]
    · rw [List.getElem?_eq_none (by simp; omega), List.getElem?_eq_none (by omega)]

theorem reach_make {A : AHeap} {to tag refs raws j : Nat} (h : Reach (A.make to tag refs raws) j) : Reach A j ∨ j = A.objs.length := by
  induction h with
  | slot h =>
    rcases mem_set h with h | h
    · exact .inl (.slot h)
    · exact .inr (by omega)
  | @ref a b _ hb ih =>
    rw [obj_make] at hb
    split at hb
    · have := (List.mem_replicate.1 hb).2; omega
    · rename_i hne
      exact .inl (.ref (ih.resolve_right hne) hb)

/-- The state behind making an object in an area. -/
def madeIn (s : HS) (a to tag refs raws : Nat) : HS :=
  { (s.setAr a (s.ar a ++ newWords tag refs raws)) with slots := s.slots.set to (enc a (s.ar a).length), big := max s.big (1 + refs + raws) }

theorem InvG.make (hi : InvG s G φ A) {a to tag refs raws : Nat} (ha : a = 2 ∨ a = s.now) (htag : tag < 65536) (hrefs : refs ≤ 4000) (hraws : raws ≤ 4000)
    (hy : a = 2 → ((s.ar 2).length : Int) + (1 + refs + raws : Nat) ≤ s.young) (hroom : (A.live : Int) + (1 + refs + raws : Nat) ≤ s.room) (ob bd wo : Int) :
    ∃ G' φ', InvG { madeIn s a to tag refs raws with words := s.words + (1 + refs + raws : Nat), objs := ob, bound := bd, worst := wo } G' φ' (A.make to tag refs raws) ∧
      todoSum { madeIn s a to tag refs raws with words := s.words + (1 + refs + raws : Nat), objs := ob, bound := bd, worst := wo } = todoSum s := by
  obtain ⟨n, hn⟩ : ∃ n, n = A.objs.length := ⟨_, rfl⟩
  obtain ⟨x, hx⟩ : ∃ x, x = newWords tag refs raws := ⟨_, rfl⟩
  have hnow := hi.rep.now
  have ha3 : a < 3 := by omega
  have hxl : x.length = 1 + refs + raws := by rw [hx]; simp [newWords]; omega
  have hnotn : ¬ Reach A n := fun h => by have := h.lt hi.rep.wf; omega
  obtain ⟨to', hto⟩ : ∃ t, t = enc a (s.ar a).length := ⟨_, rfl⟩
  have htop : 1 ≤ to' := by rw [hto]; exact enc_pos _ _
  have htoa : aOf to' = a := by rw [hto]; exact aOf_enc _ (by omega)
  have hflatA := hi.rep.flat a ha3
  have htopp : pOf to' = flen (G a) := by rw [hto, pOf_enc _ (by omega), hflatA]
  obtain ⟨G', hG⟩ : ∃ G', G' = upd G a (G a ++ [x]) := ⟨_, rfl⟩
  have gA : G' a = G a ++ [x] := by rw [hG, upd_same]
  have gO : ∀ k, k ≠ a → G' k = G k := fun k h => by rw [hG, upd_other _ _ h]
  have hloc : ∀ r o, Loc G r o → Loc G' r o := by
    intro r o ⟨r1, r2, r3⟩
    refine ⟨r1, r2, ?_⟩
    by_cases e : aOf r = a
    · rw [e, gA]; rw [e] at r3; exact r3.snoc x
    · rw [gO _ e]; exact r3
  have hlocN : Loc G' to' x := ⟨htop, by omega, by rw [htoa, gA, htopp]; exact HasObj.last _ _⟩
  have hphi : ∀ m, m ≠ n → move1 φ n to' m = φ m := fun m hm => by simp [move1, hm]
  have hphin : move1 φ n to' n = to' := by simp [move1]
  have href : ∀ y k, RefOk G φ s.now y k → k ≠ n + 1 → RefOk G' (move1 φ n to') s.now y k := by
    intro y k hy hk
    rcases hy with rfl | ⟨m, o, rfl, h1, h2, h3, h4⟩
    · left
      cases k with
      | zero => rfl
      | succ m => simp only [phi]; rw [hphi m (by omega)]
    · exact .inr ⟨m, o, rfl, hloc _ _ h1, by rw [hphi m (by omega)]; exact h2, by rw [hphi m (by omega)]; exact h3, by rw [hphi m (by omega)]; exact h4⟩
  obtain ⟨s', hs'⟩ : ∃ s', s' = { madeIn s a to tag refs raws with words := s.words + (1 + refs + raws : Nat), objs := ob, bound := bd, worst := wo } := ⟨_, rfl⟩
  have sar : ∀ k, s'.ar k = (s.setAr a (s.ar a ++ x)).ar k := fun k => by rw [hs', hx]; rfl
  have sA : s'.ar a = s.ar a ++ x := by rw [sar, ar_setAr_same _ _ ha3]
  have sO : ∀ k, k < 3 → k ≠ a → s'.ar k = s.ar k := fun k hk hne => by rw [sar, ar_setAr_other _ _ ha3 hk hne]
  have hsm := (same_setAr s a (s.ar a ++ x)).1
  have f_now : s'.now = s.now := by rw [hs', hx] at *; exact hsm.now
  have f_slots : s'.slots = s.slots.set to to' := by rw [hs', hto]; rfl
  have f_todo : s'.todo = s.todo := by rw [hs', hx] at *; exact hsm.todo
  have f_room : s'.room = s.room := by rw [hs', hx] at *; exact hsm.room
  have f_young : s'.young = s.young := by rw [hs', hx] at *; exact hsm.young
  have f_moves : s'.moves = s.moves := by rw [hs', hx] at *; exact hsm.moves
  have f_copied : s'.copied = s.copied := by rw [hs', hx] at *; exact (same_setAr s a _).2
  have f_words : s'.words = s.words + (1 + refs + raws : Nat) := by rw [hs']
  have f_big : s'.big = max s.big (1 + refs + raws) := by rw [hs']; rfl
  have hrn : ∀ m, Reach (A.make to tag refs raws) m → m ≠ n → Reach A m := fun m hm hne => (reach_make hm).resolve_right (by rw [← hn]; exact hne)
  have hslotok : ∀ k, k ∈ A.slots → k ≠ n + 1 := fun k hk => by have := hi.rep.wf.1 k hk; omega
  have hfieldok : ∀ m k, Reach A m → k ∈ (A.obj m).refs → k ≠ n + 1 := by
    intro m k hm hk e
    subst e
    exact hnotn (.ref hm hk)
  rw [← hs']
  have hrep : Rep (fun _ => False) s' G' (move1 φ n to') (A.make to tag refs raws) := {
    wf := by
      refine ⟨fun k hk => ?_, fun o ho k hk => ?_⟩
      · show k ≤ (A.objs ++ [_]).length
        rw [List.length_append]
        rcases mem_set hk with h | h
        · have := hi.rep.wf.1 k h; simp; omega
        · simp; omega
      · show k ≤ (A.objs ++ [_]).length
        rw [List.length_append]
        rcases List.mem_append.1 ho with h | h
        · have := hi.rep.wf.2 o h k hk; simp; omega
        · simp at h; subst h; have := (List.mem_replicate.1 hk).2; omega
    now := by rw [f_now]; exact hnow
    flat := fun k hk => by
      by_cases e : k = a
      · subst e; rw [sA, gA, hflatA]; simp
      · rw [sO k hk e, gO k e]; exact hi.rep.flat k hk
    objs := by
      intro k hk o ho
      rw [f_big]
      have old : ∀ k, k < 3 → ∀ o ∈ G k, ObjWf (max s.big (1 + refs + raws)) o := fun k hk o ho => by
        have := hi.rep.objs k hk o ho
        exact ⟨this.1, by have := this.2.1; omega, this.2.2⟩
      by_cases e : k = a
      · subst e
        rw [gA] at ho
        rcases List.mem_append.1 ho with h | h
        · exact old k hk o h
        · simp at h
          subst h
          refine ⟨by rw [hx]; simp [newWords], by omega, fun _ => ?_⟩
          rw [hxl, hx]
          show _ = sizeN (hdr tag refs raws)
          unfold sizeN
          rw [refsN_hdr htag (by omega), rawsN_hdr htag (by omega)]
      · rw [gO k e] at ho; exact old k hk o ho
    slen := by rw [f_slots]; show _ = (A.slots.set to _).length; simp [hi.rep.slen]
    slot := by
      intro i y k hy hk
      rw [f_slots] at hy
      have hk' : (A.slots.set to (A.objs.length + 1))[i]? = some k := hk
      rw [f_now]
      refine ⟨?_, fun h => h.elim⟩
      rw [List.getElem?_set] at hy hk'
      by_cases e : to = i
      · subst e
        rw [if_pos rfl] at hy hk'
        split at hy
        · split at hk'
          · cases hy; cases hk'
            rw [← hn]
            exact .inl hphin.symm
          · cases hk'
        · cases hy
      · rw [if_neg e] at hy hk'
        exact href y k (hi.rep.slot i y k hy hk').1 (hslotok k (List.mem_of_getElem? hk'))
    obj := by
      intro m hm
      rw [obj_make, f_now]
      by_cases e : m = n
      · subst e
        rw [hn, if_pos rfl, ← hn, hphin]
        refine ⟨List.replicate refs 0, ?_, by simp, ?_⟩
        · have : (hdr tag (List.replicate refs 0).length (List.replicate raws (0 : Int)).length :: (List.replicate refs 0 ++ List.replicate raws (0 : Int))) = x := by
            rw [hx]; simp [newWords, List.replicate_append_replicate]
          simp only [List.length_replicate] at this ⊢
          rw [this]; exact hlocN
        · intro k y b hy hb
          have h1 := (List.mem_replicate.1 (List.mem_of_getElem? hy)).2
          have h2 := (List.mem_replicate.1 (List.mem_of_getElem? hb)).2
          subst h1; subst h2
          exact ⟨.inl rfl, fun h => h.elim⟩
      · have hm' := hrn m hm e
        rw [hn] at e
        rw [if_neg e, hphi m (by omega)]
        obtain ⟨fs, h1, h2, h3⟩ := hi.rep.obj m hm'
        refine ⟨fs, hloc _ _ h1, h2, fun k y b hy hb => ⟨href y b (h3 k y b hy hb).1 (hfieldok m b hm' (List.mem_of_getElem? hb)), fun h => h.elim⟩⟩
    inj := by
      have clash : ∀ m', Reach A m' → φ m' ≠ to' := by
        intro m' hm' e
        obtain ⟨fs', hl', _⟩ := hi.rep.obj m' hm'
        have hle := hl'.2.2.le
        rw [e, htoa, htopp, List.length_cons] at hle
        omega
      intro p q hp hq e
      by_cases ep : p = n
      · by_cases eq : q = n
        · rw [ep, eq]
        · rw [ep, hphin, hphi q eq] at e; exact absurd e.symm (clash q (hrn q hq eq))
      · by_cases eq : q = n
        · rw [eq, hphin, hphi p ep] at e; exact absurd e (clash p (hrn p hp ep))
        · rw [hphi p ep, hphi q eq] at e; exact hi.rep.inj p q (hrn p hp ep) (hrn q hq eq) e
    fits := by
      intro m hm
      rw [obj_make]
      by_cases e : m = n
      · subst e; rw [hn, if_pos rfl]; simp; omega
      · have hm' := hrn m hm e
        rw [hn] at e
        rw [if_neg e]; exact hi.rep.fits m hm' }
  have hts : todoSum s' = todoSum s := by
    unfold todoSum
    rw [f_todo]
    congr 1
    apply List.map_congr_left
    intro r hr
    obtain ⟨o, h1, _, _⟩ := hi.busyO r hr
    rw [headAt_loc hi.rep h1, headAt_loc hrep (hloc _ _ h1)]
  refine ⟨G', move1 φ n to', ?_, hts⟩
  exact {
    rep := hrep
    room1 := by rw [f_room]; exact hi.room1
    room2 := by rw [f_room]; exact hi.room2
    young1 := by rw [f_young]; exact hi.young1
    young2 := by rw [f_young, f_room]; exact hi.young2
    ylen := by
      rw [f_young]
      by_cases e : 2 = a
      · subst e; rw [sA, List.length_append, hxl]; have := hy rfl; omega
      · rw [sO 2 (by omega) e]; exact hi.ylen
    idle := by
      rw [f_moves, f_todo, f_now]
      intro hm
      refine ⟨(hi.idle hm).1, ?_⟩
      rw [sO _ (by omega) (by omega)]
      exact (hi.idle hm).2
    busyN := by rw [f_todo]; exact hi.busyN
    busyO := by
      rw [f_todo, f_now]
      intro r hr
      obtain ⟨o, h1, h2, h3⟩ := hi.busyO r hr
      exact ⟨o, hloc _ _ h1, h2, h3⟩
    busyR := by
      rw [f_todo, f_now, f_moves]
      intro hm m hmr hae
      by_cases e : m = n
      · subst e; rw [hphin, htoa] at hae; omega
      · rw [hphi m e] at hae ⊢
        exact hi.busyR hm m (hrn m hmr e) hae
    sum := by rw [hts, f_room]; exact hi.sum
    words0 := by rw [f_words]; have := hi.words0; omega
    copied0 := by rw [f_copied]; exact hi.copied0
    lens := by
      intro k hk
      rw [f_words, f_copied]
      have b := hi.lens k hk
      by_cases e : k = a
      · subst e; rw [sA, List.length_append, hxl]; omega
      · rw [sO k hk e]; omega
    live := by
      rw [f_room]
      have := live_le_new (A' := A.make to tag refs raws) (k := 1 + refs + raws) hi.rep.wf hnotn (fun m hm => by
        by_cases e : m = n
        · right
          refine ⟨e, ?_⟩
          rw [obj_make, if_pos (by omega)]
          simp [AObj.size]
        · left
          refine ⟨hrn m hm e, ?_⟩
          rw [obj_make, if_neg (by omega)])
      omega }
end
end Go.Proofs.Ythjokcjdphempaa.Hp
