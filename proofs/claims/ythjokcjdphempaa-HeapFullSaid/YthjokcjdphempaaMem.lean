/- Plain mathematics of layer 29: an area of words as a list of objects; places in it. No program is in sight here. -/
namespace Go.Proofs.Ythjokcjdphempaa.Hp

/-- The number of words of a list of objects. -/
abbrev flen (os : List (List Int)) : Nat := os.flatten.length

/-- At place p of an area that consists of these objects an object with these words begins. -/
def HasObj (os : List (List Int)) (p : Nat) (o : List Int) : Prop := ∃ pre post, os = pre ++ o :: post ∧ flen pre = p

def NE (os : List (List Int)) : Prop := ∀ o ∈ os, o ≠ []

theorem flen_append (a b : List (List Int)) : flen (a ++ b) = flen a + flen b := by simp [flen]
theorem flen_cons (o : List Int) (b : List (List Int)) : flen (o :: b) = o.length + flen b := by simp [flen]

theorem HasObj.mem {os : List (List Int)} {p : Nat} {o : List Int} (h : HasObj os p o) : o ∈ os := by
  obtain ⟨pre, post, rfl, _⟩ := h; simp

theorem HasObj.le {os : List (List Int)} {p : Nat} {o : List Int} (h : HasObj os p o) : p + o.length ≤ flen os := by
  obtain ⟨pre, post, rfl, rfl⟩ := h
  rw [flen_append, flen_cons]; omega

theorem HasObj.get {os : List (List Int)} {p : Nat} {o : List Int} (h : HasObj os p o) {k : Nat} (hk : k < o.length) : os.flatten[p + k]? = o[k]? := by
  obtain ⟨pre, post, rfl, rfl⟩ := h
  simp only [List.flatten_append, List.flatten_cons]
  rw [List.getElem?_append_right (by simp [flen]), List.getElem?_append_left (by simp [flen]; omega)]
  congr 1
  simp only [flen]; omega

theorem HasObj.slice {os : List (List Int)} {p : Nat} {o : List Int} (h : HasObj os p o) : (os.flatten.drop p).take o.length = o := by
  obtain ⟨pre, post, rfl, rfl⟩ := h
  simp only [List.flatten_append, List.flatten_cons, flen]
  rw [List.drop_left, List.take_left]

/-- Two ways of cutting one list of objects at one place are one. -/
theorem cut_unique (pre : List (List Int)) : ∀ (pre' post post' : List (List Int)) (o o' : List Int), NE (pre ++ o :: post) → pre ++ o :: post = pre' ++ o' :: post' → flen pre = flen pre' → pre = pre' ∧ o = o' ∧ post = post' := by
  induction pre with
  | nil =>
    intro pre' post post' o o' hne h hl
    cases pre' with
    | nil => simp at h; exact ⟨rfl, h.1, h.2⟩
    | cons x pre' =>
      simp at h
      have hx : x ≠ [] := by rw [← h.1]; exact hne o (by simp)
      have : 0 < x.length := List.length_pos_iff.2 hx
      have hz : flen ([] : List (List Int)) = 0 := rfl
      rw [flen_cons, hz] at hl
      omega
  | cons y pre ih =>
    intro pre' post post' o o' hne h hl
    cases pre' with
    | nil =>
      have hy : y ≠ [] := hne y (by simp)
      have : 0 < y.length := List.length_pos_iff.2 hy
      have hz : flen ([] : List (List Int)) = 0 := rfl
      rw [flen_cons, hz] at hl
      omega
    | cons x pre' =>
      simp only [List.cons_append, List.cons.injEq] at h
      rw [flen_cons, flen_cons, h.1] at hl
      obtain ⟨e1, e2, e3⟩ := ih pre' post post' o o' (fun z hz => hne z (by simp only [List.cons_append, List.mem_cons]; exact .inr hz)) h.2 (by omega)
      exact ⟨by rw [h.1, e1], e2, e3⟩

theorem HasObj.unique {os : List (List Int)} (hne : NE os) {p : Nat} {o o' : List Int} (h : HasObj os p o) (h' : HasObj os p o') : o = o' := by
  obtain ⟨pre, post, rfl, rfl⟩ := h
  obtain ⟨pre', post', e, hl⟩ := h'
  exact (cut_unique pre pre' post post' o o' hne e hl.symm).2.1

theorem HasObj.snoc {os : List (List Int)} {p : Nat} {o : List Int} (h : HasObj os p o) (x : List Int) : HasObj (os ++ [x]) p o := by
  obtain ⟨pre, post, rfl, rfl⟩ := h
  exact ⟨pre, post ++ [x], by simp, rfl⟩

theorem HasObj.last (os : List (List Int)) (x : List Int) : HasObj (os ++ [x]) (flen os) x := ⟨os, [], rfl, rfl⟩

/-- What stands in a list with one object more. -/
theorem HasObj.of_snoc {os : List (List Int)} {x : List Int} {p : Nat} {o : List Int} (h : HasObj (os ++ [x]) p o) : HasObj os p o ∨ (p = flen os ∧ o = x) := by
  obtain ⟨pre, post, e, rfl⟩ := h
  rcases List.eq_nil_or_concat post with rfl | ⟨post', y, rfl⟩
  · right
    have := List.append_inj' e (by simp)
    obtain ⟨e1, e2⟩ := this
    simp at e2
    exact ⟨by rw [e1], e2.symm⟩
  · left
    have e' : os ++ [x] = (pre ++ o :: post') ++ [y] := by rw [e]; simp
    have := List.append_inj' e' (by simp)
    exact ⟨pre, post', this.1, rfl⟩

/-- The list with an object's words turned. -/
theorem HasObj.put {os : List (List Int)} (hne : NE os) {p : Nat} {o : List Int} (h : HasObj os p o) {k : Nat} (hk : k < o.length) (v : Int) :
    ∃ os', os'.flatten = os.flatten.set (p + k) v ∧ NE os' ∧ HasObj os' p (o.set k v) ∧ (∀ p' o', p' ≠ p → (HasObj os' p' o' ↔ HasObj os p' o')) ∧
      (∃ pre post, os = pre ++ o :: post ∧ os' = pre ++ (o.set k v) :: post ∧ flen pre = p) := by
  obtain ⟨pre, post, rfl, rfl⟩ := h
  have hl : ∀ (a b : List Int) (m : Nat), m < a.length → (a ++ b).set m v = a.set m v ++ b := fun a b m hm => by rw [List.set_append, if_pos hm]
  have hfl : flen (pre ++ o.set k v :: post) = flen (pre ++ o :: post) := by simp [flen]
  have hne' : NE (pre ++ o.set k v :: post) := by
    intro z hz
    rcases List.mem_append.1 hz with hz | hz
    · exact hne z (by simp [hz])
    · rcases List.mem_cons.1 hz with rfl | hz
      · intro e; have := congrArg List.length e; simp at this; rw [this] at hk; simp at hk
      · exact hne z (by simp [hz])
  refine ⟨pre ++ o.set k v :: post, ?_, hne', ⟨pre, post, rfl, rfl⟩, ?_, pre, post, rfl, rfl, rfl⟩
  · simp only [List.flatten_append, List.flatten_cons]
    rw [List.set_append, if_neg (by simp only [flen]; omega), hl _ _ _ (by simp only [flen]; omega)]
    congr 3
    simp only [flen]; omega
  · intro p' o' hp
    have key : ∀ (x y : List Int) (pre post : List (List Int)), NE (pre ++ x :: post) → x.length = y.length → p' ≠ flen pre → HasObj (pre ++ x :: post) p' o' → HasObj (pre ++ y :: post) p' o' := by
      intro x y pre post hne hxy hp h
      obtain ⟨a, b, e, rfl⟩ := h
      rcases List.append_eq_append_iff.1 e with ⟨c, hc1, hc2⟩ | ⟨c, hc1, hc2⟩
      · cases c with
        | nil => simp at hc1; rw [hc1] at hp; exact absurd rfl hp
        | cons z c =>
          simp at hc2
          refine ⟨pre ++ y :: c, b, by rw [hc2.2]; simp, ?_⟩
          rw [hc1, ← hc2.1]
          simp [flen, hxy]
      · cases c with
        | nil => simp at hc1; rw [hc1] at hp; exact absurd rfl hp
        | cons z c =>
          simp at hc2
          exact ⟨a, c ++ y :: post, by rw [hc1, hc2.1]; simp, rfl⟩
    exact ⟨key _ _ pre post hne' (by simp) hp, key _ _ pre post hne (by simp) hp⟩

/-- The weight of the objects that meet a test on their place and words. -/
def wt (P : Nat → List Int → Bool) : Nat → List (List Int) → Nat
  | _, [] => 0
  | p, o :: os => (if P p o then o.length else 0) + wt P (p + o.length) os

theorem wt_append (P : Nat → List Int → Bool) (a : List (List Int)) : ∀ (p : Nat) (b : List (List Int)), wt P p (a ++ b) = wt P p a + wt P (p + flen a) b := by
  induction a with
  | nil => intro p b; simp [wt, flen]
  | cons o a ih =>
    intro p b
    simp only [List.cons_append, wt, ih, flen_cons, Nat.add_assoc]

theorem wt_le (P : Nat → List Int → Bool) (a : List (List Int)) : ∀ (p : Nat), wt P p a ≤ flen a := by
  induction a with
  | nil => intro p; simp [wt]
  | cons o a ih =>
    intro p
    have := ih (p + o.length)
    rw [flen_cons]
    simp only [wt]
    split <;> omega

theorem wt_congr {P Q : Nat → List Int → Bool} (a : List (List Int)) : ∀ (p : Nat), (∀ q o, HasObj a q o → P (p + q) o = Q (p + q) o) → wt P p a = wt Q p a := by
  induction a with
  | nil => intro p _; rfl
  | cons o a ih =>
    intro p h
    simp only [wt]
    have h0 := h 0 o ⟨[], a, rfl, rfl⟩
    rw [Nat.add_zero] at h0
    rw [h0, ih (p + o.length) (fun q o' hq => by
      obtain ⟨pre, post, e, hl⟩ := hq
      have := h (o.length + q) o' ⟨o :: pre, post, by rw [e]; rfl, by rw [flen_cons, hl]⟩
      rw [← Nat.add_assoc] at this; exact this)]

/-- One object more that meets the test. -/
theorem wt_more {P Q : Nat → List Int → Bool} {os : List (List Int)} (hne : NE os) {p : Nat} {o : List Int} (h : HasObj os p o) (h0 : P p o = false) (h1 : Q p o = true)
    (hr : ∀ q o', HasObj os q o' → q ≠ p → Q q o' = P q o') : wt Q 0 os = wt P 0 os + o.length := by
  obtain ⟨pre, post, rfl, rfl⟩ := h
  have hoNe : o ≠ [] := hne o (by simp)
  have hop : 0 < o.length := List.length_pos_iff.2 hoNe
  rw [wt_append, wt_append]
  simp only [wt, Nat.zero_add, h0, h1, if_true]
  rw [wt_congr (P := Q) (Q := P) pre 0 (fun q o' hq => by
      have hle := hq.le
      obtain ⟨a, b, e, hl⟩ := hq
      have hpos : 0 < o'.length := List.length_pos_iff.2 (hne o' (by rw [e]; simp))
      simp only [Nat.zero_add]
      exact hr q o' ⟨a, b ++ o :: post, by rw [e]; simp, hl⟩ (by omega)),
    wt_congr (P := Q) (Q := P) post (flen pre + o.length) (fun q o' hq => by
      obtain ⟨a, b, e, hl⟩ := hq
      exact hr _ o' ⟨pre ++ o :: a, b, by rw [e]; simp, by rw [flen_append, flen_cons, hl, Nat.add_assoc]⟩ (by omega))]
  simp
  omega

end Go.Proofs.Ythjokcjdphempaa.Hp
