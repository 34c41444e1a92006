/- Plain mathematics of layer 29: an abstract heap that keeps its objects for ever, and the search from its slots. No program is in sight here. -/
namespace Go.Proofs.Ythjokcjdphempaa.Hp

/-- An object of the abstract heap: its references are numbers of objects plus 1, or 0. -/
structure AObj where
  tag : Nat
  refs : List Nat
  raws : List Int

/-- The abstract heap. -/
structure AHeap where
  slots : List Nat
  objs : List AObj

def AObj.size (o : AObj) : Nat := 1 + o.refs.length + o.raws.length

def AHeap.obj (A : AHeap) (m : Nat) : AObj := A.objs.getD m ⟨0, [], []⟩

/-- One value of a slot or reference comes into the list of a search. -/
def addv (out : List Nat) (n : Nat) : List Nat := if n = 0 then out else if n - 1 ∈ out then out else out ++ [n - 1]

def adds (out ns : List Nat) : List Nat := ns.foldl addv out

/-- The list of a search when the references of its first i objects have been gone through. -/
def outAt (A : AHeap) : Nat → List Nat
  | 0 => adds [] A.slots
  | i + 1 => match (outAt A i)[i]? with
    | some m => adds (outAt A i) (A.obj m).refs
    | none => outAt A i

theorem outAt_succ (A : AHeap) (i : Nat) : outAt A (i + 1) = match (outAt A i)[i]? with
    | some m => adds (outAt A i) (A.obj m).refs
    | none => outAt A i := rfl

theorem outAt_some {A : AHeap} {i m : Nat} (h : (outAt A i)[i]? = some m) : outAt A (i + 1) = adds (outAt A i) (A.obj m).refs := by
  rw [outAt_succ, h]

theorem outAt_none {A : AHeap} {i : Nat} (h : (outAt A i)[i]? = none) : outAt A (i + 1) = outAt A i := by
  rw [outAt_succ, h]

/-- All numbers name objects. -/
def AHeap.Wf (A : AHeap) : Prop := (∀ n ∈ A.slots, n ≤ A.objs.length) ∧ ∀ o ∈ A.objs, ∀ n ∈ o.refs, n ≤ A.objs.length

inductive Reach (A : AHeap) : Nat → Prop
  | slot {m : Nat} : m + 1 ∈ A.slots → Reach A m
  | ref {m k : Nat} : Reach A m → k + 1 ∈ (A.obj m).refs → Reach A k

theorem addv_sub (out : List Nat) (n : Nat) : ∀ x ∈ out, x ∈ addv out n := by
  intro x hx
  unfold addv
  split
  · exact hx
  · split
    · exact hx
    · exact List.mem_append_left _ hx

theorem addv_mem {out : List Nat} {n x : Nat} (h : x ∈ addv out n) : x ∈ out ∨ n = x + 1 := by
  unfold addv at h
  split at h
  · exact .inl h
  · split at h
    · exact .inl h
    · rcases List.mem_append.1 h with h | h
      · exact .inl h
      · simp at h; right; omega

theorem addv_new (out : List Nat) (m : Nat) : m ∈ addv out (m + 1) := by
  unfold addv
  rw [if_neg (by omega)]
  split
  · assumption
  · simp

theorem addv_nodup {out : List Nat} (h : out.Nodup) (n : Nat) : (addv out n).Nodup := by
  unfold addv
  split
  · exact h
  · split
    · exact h
    · rename_i hn
      refine List.nodup_append.2 ⟨h, by simp, ?_⟩
      intro a ha b hb e
      simp at hb
      subst hb; subst e
      exact hn ha

theorem addv_prefix (out : List Nat) (n : Nat) : ∃ t, addv out n = out ++ t := by
  unfold addv
  split
  · exact ⟨[], by simp⟩
  · split
    · exact ⟨[], by simp⟩
    · exact ⟨_, rfl⟩

theorem adds_sub (ns : List Nat) : ∀ (out : List Nat), ∀ x ∈ out, x ∈ adds out ns := by
  induction ns with
  | nil => intro out x hx; exact hx
  | cons n ns ih => intro out x hx; exact ih _ x (addv_sub out n x hx)

theorem adds_mem (ns : List Nat) : ∀ {out : List Nat} {x : Nat}, x ∈ adds out ns → x ∈ out ∨ x + 1 ∈ ns := by
  induction ns with
  | nil => intro out x hx; exact .inl hx
  | cons n ns ih =>
    intro out x hx
    rcases ih hx with h | h
    · rcases addv_mem h with h | h
      · exact .inl h
      · exact .inr (by rw [h]; simp)
    · exact .inr (List.mem_cons_of_mem _ h)

theorem adds_new (ns : List Nat) : ∀ {out : List Nat} {m : Nat}, m + 1 ∈ ns → m ∈ adds out ns := by
  induction ns with
  | nil => intro out m h; cases h
  | cons n ns ih =>
    intro out m h
    rcases List.mem_cons.1 h with h | h
    · subst h
      exact adds_sub ns _ _ (addv_new out m)
    · exact ih h

theorem adds_nodup (ns : List Nat) : ∀ {out : List Nat}, out.Nodup → (adds out ns).Nodup := by
  induction ns with
  | nil => intro out h; exact h
  | cons n ns ih => intro out h; exact ih (addv_nodup h n)

theorem adds_prefix (ns : List Nat) : ∀ (out : List Nat), ∃ t, adds out ns = out ++ t := by
  induction ns with
  | nil => intro out; exact ⟨[], by simp [adds]⟩
  | cons n ns ih =>
    intro out
    obtain ⟨t, ht⟩ := addv_prefix out n
    obtain ⟨u, hu⟩ := ih (addv out n)
    exact ⟨t ++ u, by show adds (addv out n) ns = _; rw [hu, ht, List.append_assoc]⟩

theorem adds_snoc (out ns : List Nat) (n : Nat) : adds out (ns ++ [n]) = addv (adds out ns) n := by simp [adds]

theorem outAt_prefix (A : AHeap) (i : Nat) : ∃ t, outAt A (i + 1) = outAt A i ++ t := by
  cases h : (outAt A i)[i]? with
  | some m => rw [outAt_some h]; exact adds_prefix _ _
  | none => rw [outAt_none h]; exact ⟨[], by simp⟩

theorem outAt_prefix_le (A : AHeap) {i j : Nat} (h : i ≤ j) : ∃ t, outAt A j = outAt A i ++ t := by
  induction h with
  | refl => exact ⟨[], by simp⟩
  | step _ ih =>
    obtain ⟨t, ht⟩ := ih
    rename_i m _
    obtain ⟨u, hu⟩ := outAt_prefix A m
    exact ⟨t ++ u, by rw [hu, ht, List.append_assoc]⟩

theorem outAt_nodup (A : AHeap) (i : Nat) : (outAt A i).Nodup := by
  induction i with
  | zero => exact adds_nodup _ (by simp)
  | succ i ih =>
    cases h : (outAt A i)[i]? with
    | some m => rw [outAt_some h]; exact adds_nodup _ ih
    | none => rw [outAt_none h]; exact ih

theorem outAt_reach (A : AHeap) (i : Nat) : ∀ m ∈ outAt A i, Reach A m := by
  induction i with
  | zero =>
    intro m hm
    rcases adds_mem _ hm with h | h
    · cases h
    · exact .slot h
  | succ i ih =>
    intro m hm
    cases hk : (outAt A i)[i]? with
    | some k =>
      rw [outAt_some hk] at hm
      rcases adds_mem _ hm with h | h
      · exact ih m h
      · exact .ref (ih k (List.mem_of_getElem? hk)) h
    | none => rw [outAt_none hk] at hm; exact ih m hm

/-- A search that has come to its end holds all that is reachable. -/
theorem reach_outAt (A : AHeap) (i : Nat) (hi : (outAt A i).length ≤ i) {m : Nat} (h : Reach A m) : m ∈ outAt A i := by
  have hz : ∀ x ∈ outAt A 0, x ∈ outAt A i := by
    intro x hx
    obtain ⟨t, ht⟩ := outAt_prefix_le A (Nat.zero_le i)
    rw [ht]; exact List.mem_append_left _ hx
  induction h with
  | slot h => exact hz _ (adds_new _ h)
  | @ref m k _ hk ih =>
    obtain ⟨j, hj, hjm⟩ := List.mem_iff_getElem.1 ih
    have hji : j < i := by omega
    obtain ⟨t, ht⟩ := outAt_prefix_le A (show j + 1 ≤ i by omega)
    obtain ⟨u, hu⟩ := outAt_prefix_le A (show j ≤ i by omega)
    -- the entry at j stands there since it came in: the list at j has it already
    by_cases hlt : j < (outAt A j).length
    · have e : (outAt A j)[j]? = some m := by
        have h1 : (outAt A i)[j]? = some m := by rw [List.getElem?_eq_getElem hj, hjm]
        rw [hu, List.getElem?_append_left hlt] at h1
        exact h1
      have : k ∈ outAt A (j + 1) := by
        rw [outAt_some e]
        exact adds_new _ hk
      rw [ht]; exact List.mem_append_left _ this
    · -- the list at j ends ahead of j: it does not grow any more
      have e : ∀ d, outAt A (j + d) = outAt A j := by
        intro d
        induction d with
        | zero => rfl
        | succ d ihd =>
          have : (outAt A (j + d))[j + d]? = none := by rw [ihd]; exact List.getElem?_eq_none (by omega)
          show outAt A (j + d + 1) = _
          rw [outAt_none this]
          exact ihd
      have := e (i - j)
      rw [show j + (i - j) = i by omega] at this
      rw [this] at hj
      omega

theorem nodup_length_le (n : Nat) : ∀ (l : List Nat), l.Nodup → (∀ x ∈ l, x < n) → l.length ≤ n := by
  induction n with
  | zero =>
    intro l _ h
    cases l with
    | nil => simp
    | cons x l => exact absurd (h x (by simp)) (by omega)
  | succ n ih =>
    intro l hl h
    have h1 : (l.erase n).length ≤ n := by
      refine ih _ (hl.erase n) ?_
      intro x hx
      have hx' := (hl.mem_erase_iff).1 hx
      have := h x hx'.2
      have := hx'.1
      omega
    have h2 := List.length_erase (a := n) (l := l)
    split at h2 <;> omega

theorem Reach.lt {A : AHeap} (hA : A.Wf) {m : Nat} (h : Reach A m) : m < A.objs.length := by
  cases h with
  | slot h => have := hA.1 _ h; omega
  | @ref k _ _ h =>
    unfold AHeap.obj at h
    by_cases hk : k < A.objs.length
    · rw [List.getD_eq_getElem?_getD, List.getElem?_eq_getElem hk] at h
      have := hA.2 _ (List.getElem_mem hk) _ h
      omega
    · rw [List.getD_eq_getElem?_getD, List.getElem?_eq_none (by omega)] at h
      simp at h

theorem outAt_length {A : AHeap} (hA : A.Wf) (i : Nat) : (outAt A i).length ≤ A.objs.length :=
  nodup_length_le _ _ (outAt_nodup A i) fun m hm => (outAt_reach A i m hm).lt hA

/-- The whole search. -/
def AHeap.search (A : AHeap) : List Nat := outAt A A.objs.length

theorem outAt_end (A : AHeap) {i j : Nat} (hi : (outAt A i).length ≤ i) (hj : (outAt A j).length ≤ j) : outAt A i = outAt A j := by
  have stay : ∀ i, (outAt A i).length ≤ i → ∀ d, outAt A (i + d) = outAt A i := by
    intro i hi d
    induction d with
    | zero => rfl
    | succ d ihd =>
      have : (outAt A (i + d))[i + d]? = none := by rw [ihd]; exact List.getElem?_eq_none (by omega)
      show outAt A (i + d + 1) = _
      rw [outAt_none this]
      exact ihd
  rcases Nat.le_total i j with h | h
  · have := stay i hi (j - i); rw [show i + (j - i) = j by omega] at this; exact this.symm
  · have := stay j hj (i - j); rw [show j + (i - j) = i by omega] at this; exact this

theorem search_of_end {A : AHeap} (hA : A.Wf) {i : Nat} (hi : (outAt A i).length ≤ i) : outAt A i = A.search :=
  outAt_end A hi (outAt_length hA _)

theorem mem_search {A : AHeap} (hA : A.Wf) {m : Nat} : m ∈ A.search ↔ Reach A m :=
  ⟨outAt_reach A _ m, reach_outAt A _ (outAt_length hA _)⟩

theorem search_nodup (A : AHeap) : A.search.Nodup := outAt_nodup A _

/-- The sizes of all reachable objects together. -/
def AHeap.live (A : AHeap) : Nat := (A.search.map fun m => (A.obj m).size).sum

end Go.Proofs.Ythjokcjdphempaa.Hp
