/- Plain mathematics of layer 29: what writing a slot, a reference or a word does to what ties the program's heap to the abstract one. No program is in sight here. -/
import Derived.Test.YthjokcjdphempaaGc
namespace Go.Proofs.Ythjokcjdphempaa.Hp

/-! ### The abstract heap's own steps -/

def AHeap.setSlot (A : AHeap) (i n : Nat) : AHeap := { A with slots := A.slots.set i n }
def AHeap.setRef (A : AHeap) (m k n : Nat) : AHeap := { A with objs := A.objs.modify m fun o => { o with refs := o.refs.set k n } }
def AHeap.setRaw (A : AHeap) (m k : Nat) (v : Int) : AHeap := { A with objs := A.objs.modify m fun o => { o with raws := o.raws.set k v } }

theorem mem_set {α : Type} {l : List α} {i : Nat} {v x : α} (h : x ∈ l.set i v) : x ∈ l ∨ x = v := List.mem_or_eq_of_mem_set h

theorem obj_setRef (A : AHeap) (m k n j : Nat) (hm : m < A.objs.length) : (A.setRef m k n).obj j = if j = m then { A.obj m with refs := (A.obj m).refs.set k n } else A.obj j := by
  unfold AHeap.setRef AHeap.obj
  simp only [List.getD_eq_getElem?_getD, List.getElem?_modify]
  by_cases h : j = m
  · subst h
    simp [List.getElem?_eq_getElem hm]
  · have h' : ¬ m = j := Ne.symm h
    simp [h, h']

theorem obj_setRaw (A : AHeap) (m k : Nat) (v : Int) (j : Nat) (hm : m < A.objs.length) : (A.setRaw m k v).obj j = if j = m then { A.obj m with raws := (A.obj m).raws.set k v } else A.obj j := by
  unfold AHeap.setRaw AHeap.obj
  simp only [List.getD_eq_getElem?_getD, List.getElem?_modify]
  by_cases h : j = m
  · subst h
    simp [List.getElem?_eq_getElem hm]
  · have h' : ¬ m = j := Ne.symm h
    simp [h, h']

/-- What is reachable when a reference of a reachable object is set to what was reachable. -/
theorem reach_setRef {A : AHeap} {m k n : Nat} (hm : m < A.objs.length) (hn : ∀ j, n = j + 1 → Reach A j) {j : Nat} (h : Reach (A.setRef m k n) j) : Reach A j := by
  induction h with
  | slot h => exact .slot h
  | @ref a b _ hb ih =>
    rw [obj_setRef A m k n a hm] at hb
    split at hb
    · rename_i e
      subst e
      rcases mem_set hb with h | h
      · exact .ref ih h
      · exact hn _ h.symm
    · exact .ref ih hb

theorem reach_setRaw {A : AHeap} {m k : Nat} {v : Int} (hm : m < A.objs.length) {j : Nat} : Reach (A.setRaw m k v) j ↔ Reach A j := by
  constructor
  · intro h
    induction h with
    | slot h => exact .slot h
    | @ref a b _ hb ih =>
      rw [obj_setRaw A m k v a hm] at hb
      split at hb
      · rename_i e; subst e; exact .ref ih hb
      · exact .ref ih hb
  · intro h
    induction h with
    | slot h => exact .slot h
    | @ref a b _ hb ih =>
      refine .ref ih ?_
      rw [obj_setRaw A m k v a hm]
      split
      · rename_i e; subst e; exact hb
      · exact hb

theorem reach_setSlot {A : AHeap} {i n : Nat} (hn : ∀ j, n = j + 1 → Reach A j) {j : Nat} (h : Reach (A.setSlot i n) j) : Reach A j := by
  induction h with
  | slot h =>
    rcases mem_set h with h | h
    · exact .slot h
    · exact hn _ h.symm
  | @ref a b _ hb ih => exact .ref ih hb

theorem list_set_same {α : Type} (l : List α) (i : Nat) (x : α) (h : l[i]? = some x) : l.set i x = l := by
  apply List.ext_getElem?
  intro j
  rw [List.getElem?_set]
  split
  · rename_i e; subst e
    split
    · exact h.symm
    · rename_i hl; rw [List.getElem?_eq_none (by omega)] at h; cases h
  · rfl

theorem setSlot_same {A : AHeap} {i n : Nat} (h : A.slots[i]? = some n) : A.setSlot i n = A := by
  unfold AHeap.setSlot; rw [list_set_same _ _ _ h]

theorem setRef_same {A : AHeap} {m k n : Nat} (h : (A.obj m).refs[k]? = some n) : A.setRef m k n = A := by
  unfold AHeap.setRef
  have : (A.objs.modify m fun o => { o with refs := o.refs.set k n }) = A.objs := by
    apply List.ext_getElem?
    intro j
    rw [List.getElem?_modify]
    by_cases e : m = j
    · subst e
      unfold AHeap.obj at h
      cases hj : A.objs[m]? with
      | none => simp
      | some o =>
        rw [List.getD_eq_getElem?_getD, hj] at h
        simp only [Option.getD_some] at h
        simp only [if_true, Option.map_eq_map, Option.map_some, Option.some.injEq]
        rw [list_set_same _ _ _ h]
    · simp [e]
  rw [this]

/-! ### Rep -/

section
variable {D : Ptr → Prop} {s : HS} {G : Areas} {φ : Nat → Int} {A : AHeap}

/-- Rep asks of a state its areas, the number of the area now, and the slots. -/
theorem Rep.congr (h : Rep D s G φ A) {s' : HS} (h0 : ∀ k, k < 3 → s'.ar k = s.ar k) (h1 : s'.now = s.now) (h2 : s'.slots = s.slots) (h3 : s'.big = s.big) : Rep D s' G φ A :=
  { wf := h.wf, now := by rw [h1]; exact h.now, flat := fun k hk => by rw [h0 k hk]; exact h.flat k hk, objs := by rw [h3]; exact h.objs, slen := by rw [h2]; exact h.slen,
    slot := by rw [h1, h2]; exact h.slot, obj := by rw [h1]; exact h.obj, inj := h.inj, fits := h.fits }

theorem reach_of_mem {n : Nat} (hn : n ∈ A.slots ∨ ∃ m, Reach A m ∧ n ∈ (A.obj m).refs) : ∀ j, n = j + 1 → Reach A j := by
  intro j e
  subst e
  rcases hn with h | ⟨m, hm, h⟩
  · exact .slot h
  · exact .ref hm h

theorem Rep.setSlot (h : Rep D s G φ A) {i n : Nat} {x : Int} (hx : RefOk G φ s.now x n) (hn : ∀ j, n = j + 1 → Reach A j) :
    Rep (fun p => (D p ∧ p ≠ .slot i) ∨ (p = .slot i ∧ x = phi φ n)) { s with slots := s.slots.set i x } G φ (A.setSlot i n) := by
  have hr : ∀ j, Reach (A.setSlot i n) j → Reach A j := fun j hj => reach_setSlot hn hj
  exact {
    wf := by
      refine ⟨?_, h.wf.2⟩
      intro y hy
      rcases mem_set hy with hy | hy
      · exact h.wf.1 y hy
      · subst hy
        cases y with
        | zero => omega
        | succ j => exact (hn j rfl).lt h.wf
    now := h.now
    flat := h.flat
    objs := h.objs
    slen := by show (s.slots.set i x).length = (A.slots.set i n).length; simp [h.slen]
    slot := by
      intro j y b hy hb
      have hy' : (s.slots.set i x)[j]? = some y := hy
      have hb' : (A.slots.set i n)[j]? = some b := hb
      rw [List.getElem?_set] at hy' hb'
      by_cases e : i = j
      · subst e
        rw [if_pos rfl] at hy' hb'
        split at hy'
        · split at hb'
          · cases hy'; cases hb'
            refine ⟨hx, ?_⟩
            rintro (⟨_, hd'⟩ | ⟨_, hd'⟩)
            · exact absurd rfl hd'
            · exact hd'
          · cases hb'
        · cases hy'
      · rw [if_neg e] at hy' hb'
        obtain ⟨h1, h2⟩ := h.slot j y b hy' hb'
        refine ⟨h1, ?_⟩
        rintro (⟨hd', _⟩ | ⟨hd', _⟩)
        · exact h2 hd'
        · cases hd'; exact absurd rfl e
    obj := by
      intro m hm
      obtain ⟨fs, h1, h2, h3⟩ := h.obj m (hr m hm)
      refine ⟨fs, h1, h2, ?_⟩
      intro k y b hy hb
      obtain ⟨h4, h5⟩ := h3 k y b hy hb
      refine ⟨h4, ?_⟩
      rintro (⟨hd', _⟩ | ⟨hd', _⟩)
      · exact h5 hd'
      · cases hd'
    inj := fun m m' hm hm' e => h.inj m m' (hr m hm) (hr m' hm') e
    fits := fun m hm => h.fits m (hr m hm) }

/-- Behind a write into an object its first word, its size and all other objects are as they were. -/
structure Kept (G G' : Areas) : Prop where
  loc : ∀ r o, Loc G r o → ∃ o', Loc G' r o' ∧ hd o' = hd o ∧ o'.length = o.length
  fresh : ∀ k, fresh (G' k) = fresh (G k)
  flen : ∀ k, flen (G' k) = flen (G k)

theorem putWord (h : Rep D s G φ A) {r : Int} {o : List Int} (hl : Loc G r o) {k : Nat} (hk0 : 0 < k) (hk : k < o.length) (v : Int) :
    ∃ G', Kept G G' ∧ Loc G' r (o.set k v) ∧ (∀ r' o', r' ≠ r → Loc G r' o' → Loc G' r' o') ∧
      (∀ j, j < 3 → (s.setAr (aOf r) ((s.ar (aOf r)).set (pOf r + k) v)).ar j = (G' j).flatten) ∧ (∀ j, j < 3 → ∀ x ∈ G' j, ObjWf s.big x) ∧ (∀ j, j ≠ aOf r → G' j = G j) := by
  obtain ⟨os', e1, e2, e3, e4, pre, post, e5, e6, e7⟩ := hl.2.2.put (h.ne hl.2.1) hk v
  have hhd : hd (o.set k v) = hd o := by
    cases o with
    | nil => simp at hk
    | cons y o =>
      cases k with
      | zero => omega
      | succ k => simp [hd]
  have gA : upd G (aOf r) os' (aOf r) = os' := upd_same _ _ _
  have gO : ∀ j, j ≠ aOf r → upd G (aOf r) os' j = G j := fun j hj => upd_other _ _ hj
  have hoth : ∀ r' o', r' ≠ r → Loc G r' o' → Loc (upd G (aOf r) os') r' o' := by
    intro r' o' hr ⟨r1, r2, r3⟩
    refine ⟨r1, r2, ?_⟩
    by_cases ea : aOf r' = aOf r
    · rw [ea, gA]
      rw [ea] at r3
      refine (e4 _ _ ?_).2 r3
      intro ep
      apply hr
      rw [← enc_of r1, ← enc_of hl.1, ea, ep]
    · rw [gO _ ea]; exact r3
  have hself : Loc (upd G (aOf r) os') r (o.set k v) := ⟨hl.1, hl.2.1, by rw [gA]; exact e3⟩
  refine ⟨upd G (aOf r) os', ⟨?_, ?_, ?_⟩, hself, hoth, ?_, ?_, gO⟩
  · intro r' o' hl'
    by_cases e : r' = r
    · subst e
      have := HasObj.unique (h.ne hl.2.1) hl.2.2 hl'.2.2
      subst this
      exact ⟨_, hself, hhd, by simp⟩
    · exact ⟨o', hoth _ _ e hl', rfl, rfl⟩
  · intro j
    by_cases e : j = aOf r
    · subst e
      rw [gA, e6, e5]
      unfold Hp.fresh
      rw [wt_append, wt_append]
      simp only [wt, hhd, List.length_set]
    · rw [gO j e]
  · intro j
    by_cases e : j = aOf r
    · subst e
      rw [gA]
      unfold Hp.flen
      rw [e1]; simp
    · rw [gO j e]
  · intro j hj
    by_cases e : j = aOf r
    · subst e; rw [ar_setAr_same _ _ hj, gA, e1, h.flat _ hj]
    · rw [ar_setAr_other _ _ hl.2.1 hj e, gO j e]; exact h.flat j hj
  · intro j hj x hx
    by_cases e : j = aOf r
    · subst e
      rw [gA, e6] at hx
      refine ⟨e2 x (by rw [e6]; exact hx), ?_⟩
      rcases List.mem_append.1 hx with hx | hx
      · exact (h.objs _ hj x (by rw [e5]; simp [hx])).2
      · rcases List.mem_cons.1 hx with rfl | hx
        · rw [hhd, List.length_set]
          exact (h.objs _ hj o (by rw [e5]; simp)).2
        · exact (h.objs _ hj x (by rw [e5]; simp [hx])).2
    · rw [gO j e] at hx; exact h.objs j hj x hx

/-- Where words are written into an object that is where it is, what x stands for stays. -/
theorem RefOk.put {G' : Areas} {now : Nat} {r : Int} {o : List Int} (hnn : 0 ≤ hd o) (hne : NE (G (aOf r))) (hl : Loc G r o) (hoth : ∀ r' o', r' ≠ r → Loc G r' o' → Loc G' r' o') {x : Int} {n : Nat}
    (hx : RefOk G φ now x n) : RefOk G' φ now x n := by
  rcases hx with rfl | ⟨m, o', rfl, hlx, hox, hp, hnx⟩
  · exact .inl rfl
  · refine .inr ⟨m, o', rfl, hoth x o' ?_ hlx, hox, hp, hnx⟩
    intro e
    subst e
    have := HasObj.unique hne hl.2.2 hlx.2.2
    subst this
    omega

theorem Rep.setRef (h : Rep D s G φ A) {m k n : Nat} {x : Int} (hm : Reach A m) (hk : k < (A.obj m).refs.length) (hx : RefOk G φ s.now x n) (hn : ∀ j, n = j + 1 → Reach A j) :
    ∃ G', Rep (fun p => (D p ∧ p ≠ .field m k) ∨ (p = .field m k ∧ x = phi φ n)) (s.setAr (aOf (φ m)) ((s.ar (aOf (φ m))).set (pOf (φ m) + (k + 1)) x)) G' φ (A.setRef m k n) ∧ Kept G G' ∧
      (∀ j, j ≠ aOf (φ m) → G' j = G j) := by
  have hml := hm.lt h.wf
  have hr : ∀ j, Reach (A.setRef m k n) j → Reach A j := fun j hj => reach_setRef hml hn hj
  obtain ⟨fs, hl, hfl, hfs⟩ := h.obj m hm
  have hnn := hdr_nonneg (A.obj m).tag (A.obj m).refs.length (A.obj m).raws.length
  have hlen : k + 1 < (hdr (A.obj m).tag (A.obj m).refs.length (A.obj m).raws.length :: (fs ++ (A.obj m).raws)).length := by simp; omega
  obtain ⟨G', hkept, hself, hoth, hflat, hwf, hG⟩ := putWord h hl (Nat.succ_pos k) hlen x
  have href : ∀ y b, RefOk G φ s.now y b → RefOk G' φ s.now y b := fun y b => RefOk.put (by show 0 ≤ _; simpa [hd] using hnn) (h.ne hl.2.1) hl hoth
  have hset : (hdr (A.obj m).tag (A.obj m).refs.length (A.obj m).raws.length :: (fs ++ (A.obj m).raws)).set (k + 1) x = hdr (A.obj m).tag (A.obj m).refs.length (A.obj m).raws.length :: (fs.set k x ++ (A.obj m).raws) := by
    simp only [List.set_cons_succ]
    rw [List.set_append, if_pos (by omega)]
  rw [hset] at hself
  refine ⟨G', ?_, hkept, hG⟩
  exact {
    wf := by
      refine ⟨?_, ?_⟩
      · intro y hy
        have := h.wf.1 y hy
        show y ≤ (A.objs.modify m _).length
        simpa using this
      · intro o ho y hy
        show y ≤ (A.objs.modify m _).length
        rw [List.length_modify]
        obtain ⟨j, hjo⟩ := List.mem_iff_getElem?.1 ho
        have hj : j < (A.objs.modify m fun o => { o with refs := o.refs.set k n }).length := (List.getElem?_eq_some_iff.1 hjo).1
        have ho' : o = (A.setRef m k n).obj j := by unfold AHeap.obj; rw [List.getD_eq_getElem?_getD, hjo]; rfl
        rw [ho', obj_setRef A m k n j hml] at hy
        have hj' : j < A.objs.length := by simpa using hj
        have hob : ∀ j, j < A.objs.length → A.obj j ∈ A.objs := fun j hj => by unfold AHeap.obj; rw [List.getD_eq_getElem?_getD, List.getElem?_eq_getElem hj]; exact List.getElem_mem hj
        split at hy
        · rcases mem_set hy with hy | hy
          · exact h.wf.2 _ (hob m hml) y hy
          · subst hy
            cases y with
            | zero => omega
            | succ j => exact (hn j rfl).lt h.wf
        · exact h.wf.2 _ (hob j hj') y hy
    now := by rw [(setAr_now _ _ _).1]; exact h.now
    flat := hflat
    objs := by rw [setAr_big]; exact hwf
    slen := by rw [(setAr_now _ _ _).2.1]; exact h.slen
    slot := by
      intro j y b hy hb
      rw [(setAr_now _ _ _).2.1] at hy
      rw [(setAr_now _ _ _).1]
      obtain ⟨h1, h2⟩ := h.slot j y b hy hb
      refine ⟨href y b h1, ?_⟩
      rintro (⟨hd', _⟩ | ⟨hd', _⟩)
      · exact h2 hd'
      · cases hd'
    obj := by
      intro j hj
      rw [(setAr_now _ _ _).1]
      rw [obj_setRef A m k n j hml]
      by_cases e : j = m
      · subst e
        rw [if_pos rfl]
        refine ⟨fs.set k x, by simpa using hself, by simp [hfl], ?_⟩
        intro i y b hy hb
        simp only at hb
        rw [List.getElem?_set] at hy hb
        by_cases ei : k = i
        · subst ei
          rw [if_pos rfl] at hy hb
          rw [if_pos (by omega)] at hy hb
          cases hy; cases hb
          refine ⟨href _ _ hx, ?_⟩
          rintro (⟨_, hd'⟩ | ⟨_, hd'⟩)
          · exact absurd rfl hd'
          · exact hd'
        · rw [if_neg ei] at hy hb
          obtain ⟨h1, h2⟩ := hfs i y b hy hb
          refine ⟨href y b h1, ?_⟩
          rintro (⟨hd', _⟩ | ⟨hd', _⟩)
          · exact h2 hd'
          · cases hd'; exact absurd rfl ei
      · rw [if_neg e]
        obtain ⟨fs', hl', hfl', hfs'⟩ := h.obj j (hr j hj)
        refine ⟨fs', hoth _ _ (fun e' => e (h.inj _ _ (hr j hj) hm e')) hl', hfl', ?_⟩
        intro i y b hy hb
        obtain ⟨h1, h2⟩ := hfs' i y b hy hb
        refine ⟨href y b h1, ?_⟩
        rintro (⟨hd', _⟩ | ⟨hd', _⟩)
        · exact h2 hd'
        · cases hd'; exact absurd rfl e
    inj := fun a b ha hb e => h.inj a b (hr a ha) (hr b hb) e
    fits := by
      intro j hj
      have := h.fits j (hr j hj)
      rw [obj_setRef A m k n j hml]
      split
      · rename_i e; subst e; simpa using this
      · exact this }

end
end Go.Proofs.Ythjokcjdphempaa.Hp
