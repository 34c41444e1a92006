/- A region that draws its order of evaluation: what yields its value as long as the region's last operation z has not been carried out may be taken first. -/
import Derived.OrdersHeld
import Derived.StillTail
import Derived.Tactics
import Derived.Deep.Draws
import Derived.Deep.Quiet
namespace Go.Proofs.Ythjokcjdphempaa
variable {P : Program} {ops : Array Oper} {Q : Exit → Act → World → Prop} {md : Region.Mode} {S : World → Prop} {z : Nat}

/-- Whatever order is picked: as long as z is to come, S holds. -/
def AnyZ (P : Program) (md : Region.Mode) (ops : Array Oper) (Q : Exit → Act → World → Prop) (S : World → Prop) (z : Nat) : Nat → Array Bool → Act → World → Prop
  | 0, listed, a, w => Region.ready md ops listed = [] ∧ Q .normal a w
  | fuel + 1, listed, a, w => (Region.ready md ops listed = [] → Q .normal a w) ∧
      ∀ i ∈ Region.ready md ops listed, wpOp P ops Q i (fun a' w' => ((listed.setIfInBounds i true).getD z false = true ∨ S w') ∧ AnyZ P md ops Q S z fuel (listed.setIfInBounds i true) a' w') a w

theorem AnyZ.any : ∀ (fuel : Nat) (listed : Array Bool) (a : Act) (w : World), AnyZ P md ops Q S z fuel listed a w → wpAny P md ops Q fuel listed a w
  | 0, _, _, _, h => h
  | fuel + 1, _, _, _, h => ⟨h.1, fun i hi => wpOp_mono (fun a' w' h' => AnyZ.any fuel _ a' w' h'.2) (h.2 i hi)⟩

/-- What a listed operation waits for is listed. -/
def ClosedL (md : Region.Mode) (ops : Array Oper) (listed : Array Bool) : Prop := ∀ j oj, ops[j]? = some oj → listed.getD j false = true → ∀ e ∈ oj.after, Region.binds md e = true → listed.getD e.on false = true

theorem ClosedL.set {listed : Array Bool} {i : Nat} (h : ClosedL md ops listed) (hi : i ∈ Region.ready md ops listed) : ClosedL md ops (listed.setIfInBounds i true) := by
  obtain ⟨_, oi, hoi, hall⟩ := mem_ready.1 hi
  intro j oj hj hl e he hb
  by_cases hij : i = j
  · subst hij
    rw [hoi] at hj
    cases hj
    exact getD_set_true (hall e he hb)
  · rw [getD_set_ne false hij] at hl
    exact getD_set_true (h j oj hj hl e he hb)

def closedB (md : Region.Mode) (ops : Array Oper) (listed : Array Bool) : Bool :=
  (List.range ops.size).all fun j => !(listed.getD j false) || (match ops[j]? with | some oj => oj.after.all fun e => !(Region.binds md e) || listed.getD e.on false | none => true)

theorem closedL_of_B {listed : Array Bool} (h : closedB md ops listed = true) : ClosedL md ops listed := by
  intro j oj hj hl e he hb
  unfold closedB at h
  rw [List.all_eq_true] at h
  have := h j (List.mem_range.2 (Array.getElem?_eq_some_iff.1 hj).1)
  rw [hl, hj] at this
  simp only [Bool.not_true, Bool.false_or, Array.all_eq_true'] at this
  have := this e he
  rw [hb] at this
  simpa using this

/-- z waits for i, or for what waits for i, and so on. -/
def waitsB (md : Region.Mode) (ops : Array Oper) (i : Nat) : Nat → Nat → Bool
  | 0, _ => false
  | f + 1, z => Region.waitsFor md ops z i || (List.range ops.size).any fun m => Region.waitsFor md ops z m && waitsB md ops i f m

def waits2 (md : Region.Mode) (ops : Array Oper) (z i : Nat) : Bool := waitsB md ops i 12 z

theorem listed_of_waits {listed : Array Bool} {i : Nat} (hc : ClosedL md ops listed) : ∀ (f z : Nat), waitsB md ops i f z = true → (∀ oz, ops[z]? = some oz → ∀ e ∈ oz.after, Region.binds md e = true → listed.getD e.on false = true) → listed.getD i false = true
  | 0, _, h, _ => by cases h
  | f + 1, z, h, hz => by
    unfold waitsB at h
    rw [Bool.or_eq_true] at h
    rcases h with h | h
    · obtain ⟨o', ho', e, he, hb, hon⟩ := Region.waitsFor_spec h
      have := hz o' ho' e he hb
      rwa [hon] at this
    · obtain ⟨m, _, hm⟩ := List.any_eq_true.1 h
      rw [Bool.and_eq_true] at hm
      obtain ⟨o', ho', e, he, hb, hon⟩ := Region.waitsFor_spec hm.1
      have h1 := hz o' ho' e he hb
      rw [hon] at h1
      exact listed_of_waits hc f m hm.2 fun om hom e2 he2 hb2 => hc m om hom h1 e2 he2 hb2

theorem not_ready_of_waits2 {listed : Array Bool} {i : Nat} (hc : ClosedL md ops listed) (h : waits2 md ops z i = true) (hi : listed.getD i false = false) : z ∉ Region.ready md ops listed := by
  intro hz
  obtain ⟨_, oz, hoz, hall⟩ := mem_ready.1 hz
  have := listed_of_waits hc 12 z h (fun o ho => by rw [hoz] at ho; cases ho; exact hall)
  rw [hi] at this
  cases this

theorem anyZ_first {i : Nat} {oi : Oper} {v : Value} (hi : ops[i]? = some oi) (hsel : ∀ (j : Nat) (o : Oper) cs b, ops[j]? = some o → o.op ≠ .select cs b)
    (hQ : ∀ c a w, Q (.panic c) (a.put oi.dst v) w → Q (.panic c) a w) (hz : waits2 md ops z i = true) (hzi : z ≠ i) :
    ∀ (fuel : Nat) (listed : Array Bool) (a : Act) (w : World),
      (∀ j oj, ops[j]? = some oj → j ≠ i → listed.getD j true = false → (∀ e ∈ oj.after, Region.binds md e = true → e.on ≠ i) → oi.apart ops oj = true) →
      ClosedL md ops listed → i ∈ Region.ready md ops listed → listed.getD z false = false → YieldsIf P ops S oi v a → S w →
      AnyZ P md ops Q S z fuel (listed.setIfInBounds i true) (a.put oi.dst v) w → AnyZ P md ops Q S z (fuel + 1) listed a w := by
  intro fuel
  induction fuel with
  | zero =>
    intro listed a w _ _ hr _ hy hS H
    refine ⟨fun h => absurd (h ▸ hr) (by simp), fun j hj => ?_⟩
    by_cases e : j = i
    · rw [e]; exact hy.wpOp hi hS ⟨.inr hS, H⟩
    · exact absurd (H.1 ▸ ready_mono hj e) (by simp)
  | succ fuel ih =>
    intro listed a w hfree hcl hr hlz hy hS H
    refine ⟨fun h => absurd (h ▸ hr) (by simp), fun j hj => ?_⟩
    by_cases e : j = i
    · rw [e]; exact hy.wpOp hi hS ⟨.inr hS, H⟩
    · obtain ⟨hun, oj, hoj, hall⟩ := mem_ready.1 hj
      have hiun : listed.getD i false = false := by
        have h0 := (mem_ready.1 hr).1
        exact getD_both h0
      have hnot : ∀ d ∈ oj.after, Region.binds md d = true → d.on ≠ i := fun d hd hb he => by
        have h1 := hall d hd hb
        rw [he, hiun] at h1
        cases h1
      have hjz : j ≠ z := fun ejz => not_ready_of_waits2 hcl hz hiun (ejz ▸ hj)
      have hfree' : ∀ k ok, ops[k]? = some ok → k ≠ i → (listed.setIfInBounds j true).getD k true = false → (∀ d ∈ ok.after, Region.binds md d = true → d.on ≠ i) → oi.apart ops ok = true := by
        intro k ok hk hki hu hno
        refine hfree k ok hk hki ?_ hno
        by_cases hjk : j = k
        · rw [← hjk]; exact hun
        · rw [getD_set_ne true hjk] at hu; exact hu
      refine wpOp_mono ?_ (wpOp_putIf hoj (hfree j oj hoj e hun hnot) (fun cs b => hsel i oi cs b hi) (fun cs b => hsel j oj cs b hoj) hQ hy (H.2 j (ready_mono hj e)))
      rintro a' w' ⟨hy', hS', hA⟩
      have hlz' : (listed.setIfInBounds j true).getD z false = false := by rw [getD_set_ne false hjz]; exact hlz
      have hSw : S w' := by
        refine hS'.resolve_left ?_
        rw [getD_set_ne false hjz, getD_set_ne false (Ne.symm hzi), hlz]
        simp
      refine ⟨.inr hSw, ih _ a' w' hfree' (hcl.set hj) (ready_mono hr (Ne.symm e)) hlz' hy' hSw ?_⟩
      rw [Array.setIfInBounds_comm _ _ e]
      exact hA

/-- One operation alone may come up: it is carried out. -/
theorem anyZ_step (i : Nat) {oi : Oper} {fuel : Nat} {listed : Array Bool} {a : Act} {w : World} (hi : ops[i]? = some oi) (hr : Region.ready md ops listed = [i]) (hg : oi.guard = none)
    (h : ∀ K : Act → World → Prop, (∀ a' w', ((listed.setIfInBounds i true).getD z false = true ∨ S w') → AnyZ P md ops Q S z fuel (listed.setIfInBounds i true) a' w' → K a' w') → oi.wp P a w K Q) :
    AnyZ P md ops Q S z (fuel + 1) listed a w := by
  refine ⟨fun h0 => absurd (hr ▸ h0) (by simp), fun j hj => ?_⟩
  rw [hr] at hj
  have : j = i := by simpa using hj
  subst this
  have hw : Region.wanted oi (yielded ops a.tmps) = true := by simp [Region.wanted, hg]
  unfold wpOp
  simp only [hi, hw, if_true]
  exact .inl (h _ fun a' w' h1 h2 => ⟨h1, h2⟩)

theorem anyZ_done {listed : Array Bool} {a : Act} {w : World} (hr : Region.ready md ops listed = []) (h : Q .normal a w) : ∀ fuel, AnyZ P md ops Q S z fuel listed a w
  | 0 => ⟨hr, h⟩
  | _ + 1 => ⟨fun _ => h, by rw [hr]; simp⟩

theorem wp_region_z (S : World → Prop) (z : Nat) {id : Nat} {a : Act} {w : World} (hm : P.follows .mixedOrders = true)
    (h : AnyZ P .any ops Q S z ops.size (Array.replicate ops.size false) a w.drew) : (Code.region id ops true).wp P Q a w :=
  wp_region_any hm (AnyZ.any _ _ _ _ h)

/-! ### Many reads at once -/

/-- Operations that hand back a value and touch nothing. -/
def isRead : Op → Bool
  | .move _ | .assign _ | .pick .. | .load .. | .nilCheck _ | .binOp .. | .unOp .. | .slice .. | .fieldAddr .. | .field .. | .indexAddr .. | .index .. | .lookup .. | .extract .. => true
  | _ => false

def ValueOnly (P : Program) (s : Sem Next) : Prop := ∀ W W' n, s.run P W = .ok n W' → ∃ u, n = .value u

theorem ValueOnly.val (u : Value) : ValueOnly P (pure (.value u)) := fun _ _ _ h => by cases h; exact ⟨u, rfl⟩
theorem ValueOnly.stop (h : Halt) : ValueOnly P (.halt h) := fun _ _ _ h => by cases h
theorem ValueOnly.bind {α : Type} {s : Sem α} {f : α → Sem Next} (h : ∀ a, ValueOnly P (f a)) : ValueOnly P (s >>= f) := by
  intro W W' n hr
  rw [Sem.run_bind] at hr
  cases hx : s.run P W with
  | ok a w1 => rw [hx] at hr; exact h a w1 W' n hr
  | halt x w1 => rw [hx] at hr; cases hr
theorem ValueOnly.ite {c : Prop} [Decidable c] {s t : Sem Next} (hs : ValueOnly P s) (ht : ValueOnly P t) : ValueOnly P (if c then s else t) := by split <;> assumption

theorem read_value {ρ : Operand → Value} {o : Oper} (h : isRead o.op = true) : ValueOnly P (execOp ρ o) := by
  unfold execOp
  cases hop : o.op <;> rw [hop] at h <;> simp only [isRead, Bool.false_eq_true] at h <;> simp only
  case nilCheck x =>
    have hp : ∀ e, ValueOnly P (runtimePanic e) := fun e => by
      unfold runtimePanic
      refine .bind fun p => ?_
      cases e
      all_goals first
        | exact .stop _
        | exact .bind fun _ => .bind fun _ => .stop _
    split
    · exact hp _
    · exact hp _
    · exact hp _
    · split
      · exact hp _
      · refine .bind fun _ => .bind fun _ => ?_
        refine .ite (.bind fun _ => .val _) (.val _)
      · exact .val _
    · exact .val _
  all_goals first
    | exact .val _
    | exact .bind fun _ => .val _

/-- One read behind the other, in one world. -/
def ReadsTo (P : Program) (ops : Array Oper) (W : World) : List Nat → Act → Act → Prop
  | [], a, a' => a = a'
  | i :: is, a, a' => ∃ o v, ops[i]? = some o ∧ (execOp a.eval o).run P W = .ok (.value v) W ∧ ReadsTo P ops W is (a.put o.dst v) a'

/-- The slot that an operation writes. -/
def dstAt (ops : Array Oper) (i : Nat) : Option Tmp := (ops[i]?).bind (·.dst)

/-- What is asked of the operations that are taken first: by looking alone. -/
def takesB (md : Region.Mode) (ops : Array Oper) (z size : Nat) : List Nat → Array Bool → Bool
  | [], _ => true
  | i :: is, listed => (Region.free md ops listed i && (Region.ready md ops listed).contains i && waits2 md ops z i && decide (z ≠ i) && (listed.getD z false == false)) &&
      (match ops[i]? with | some o => o.guard.isNone && isRead o.op && (match o.dst with | some d => decide (d < size) && !(is.any fun j => dstAt ops j == some d) | none => false) | none => false) &&
      takesB md ops z size is (listed.setIfInBounds i true)

def listAll : List Nat → Array Bool → Array Bool
  | [], l => l
  | i :: is, l => listAll is (l.setIfInBounds i true)

theorem readsTo_size {W : World} : ∀ {is : List Nat} {a a' : Act}, ReadsTo P ops W is a a' → a'.tmps.size = a.tmps.size
  | [], _, _, h => by rw [show _ = _ from h]
  | _ :: _, a, _, ⟨o, v, _, _, h⟩ => by
    rw [readsTo_size h]
    unfold Act.put
    cases o.dst <;> simp

theorem readsTo_keeps {W : World} {d : Nat} : ∀ {is : List Nat} {a a' : Act}, ReadsTo P ops W is a a' → (is.any fun j => dstAt ops j == some d) = false → a'.tmps[d]? = a.tmps[d]?
  | [], _, _, h, _ => by rw [show _ = _ from h]
  | i :: is, a, _, ⟨o, v, ho, _, h⟩, hn => by
    simp only [List.any_cons, Bool.or_eq_false_iff] at hn
    rw [readsTo_keeps h hn.2]
    have hd : o.dst ≠ some d := by
      intro e
      have := hn.1
      unfold dstAt at this
      rw [ho] at this
      simp [e] at this
    unfold Act.put
    cases hdst : o.dst with
    | none => rfl
    | some t =>
      rw [hdst] at hd
      simp only [Array.getElem?_setIfInBounds]
      rw [if_neg (fun e => hd (by rw [e]))]

/-- **Many reads are taken first**, in the order in which they are named. -/
theorem anyZ_reads {fuel : Nat} {w : World} {a' : Act} (hsel : Region.noSelect ops = true) (hQ : ∀ c a d v w, Q (.panic c) (Act.put a d v) w → Q (.panic c) a w) (hS : S w) :
    ∀ (is : List Nat) (listed : Array Bool) (a : Act), ClosedL md ops listed → takesB md ops z a.tmps.size is listed = true → (∀ W, S W → ReadsTo P ops W is a a') →
      AnyZ P md ops Q S z fuel (listAll is listed) a' w → AnyZ P md ops Q S z (fuel + is.length) listed a w := by
  intro is
  induction is with
  | nil =>
    intro listed a _ _ hr h
    have e : a = a' := hr w hS
    rw [e]; exact h
  | cons i is ih =>
    intro listed a hcl hb hr h
    unfold takesB at hb
    simp only [Bool.and_eq_true, decide_eq_true_eq, beq_iff_eq] at hb
    obtain ⟨⟨⟨⟨⟨⟨h2, h3⟩, h4⟩, h5⟩, h6⟩, hm⟩, htail⟩ := hb
    obtain ⟨o, v, ho, hrun, hrest⟩ := hr w hS
    rw [ho] at hm
    simp only [Bool.and_eq_true] at hm
    obtain ⟨⟨hg, _⟩, hdst⟩ := hm
    cases hd : o.dst with
    | none => rw [hd] at hdst; cases hdst
    | some d =>
      rw [hd] at hdst
      simp only [Bool.and_eq_true, decide_eq_true_eq, Bool.not_eq_true'] at hdst
      obtain ⟨hlt, hnot⟩ := hdst
      have val : ∀ (W : World) (u : Value), ReadsTo P ops W is (a.put o.dst u) a' → a'.tmps[d]? = some u := by
        intro W u hR
        rw [readsTo_keeps hR hnot]
        unfold Act.put
        rw [hd]
        simp only [Array.getElem?_setIfInBounds]
        rw [if_pos trivial, if_pos hlt]
      have hv := val w v hrest
      have hall : ∀ W, S W → (execOp a.eval o).run P W = .ok (.value v) W ∧ ReadsTo P ops W is (a.put o.dst v) a' := by
        intro W hW
        obtain ⟨o', v', ho', hrun', hrest'⟩ := hr W hW
        rw [ho] at ho'
        cases ho'
        have := val W v' hrest'
        rw [hv] at this
        cases this
        exact ⟨hrun', hrest'⟩
      have hgn : o.guard = none := by simpa using hg
      refine anyZ_first (v := v) ho (Region.noSelect_spec hsel) (fun c b w' => hQ c b _ v w') h4 h5 _ listed a w (Region.free_spec ho h2) hcl (by simpa using h3) h6 (.inl ⟨by simp [Region.wanted, hgn], fun W hW => (hall W hW).1⟩) hS ?_
      refine ih (listed.setIfInBounds i true) (a.put o.dst v) (hcl.set (by simpa using h3)) ?_ (fun W hW => (hall W hW).2) h
      have : (a.put o.dst v).tmps.size = a.tmps.size := by unfold Act.put; rw [hd]; simp
      rw [this]; exact htail

/-- The operations of a region that a row of marks names. -/
def pick : List Oper → List Bool → List Oper
  | o :: os, true :: bs => o :: pick os bs
  | _ :: os, false :: bs => pick os bs
  | _, _ => []

/-- .. and their numbers, from k on. -/
def nums : Nat → List Bool → List Nat
  | _, [] => []
  | k, true :: bs => k :: nums (k + 1) bs
  | k, false :: bs => nums (k + 1) bs

/-- The kit's walk through reads, made into 'ReadsTo'. -/
theorem readsTo_from {W : World} {a' : Act} : ∀ (bs : List Bool) (os : List Oper) (k : Nat) (a : Act), (∀ j, os[j]? = ops[k + j]?) → ((nums k bs).all fun i => match ops[i]? with | some o => o.guard.isNone && isRead o.op | none => false) = true →
    wpQuiet P ops (fun w' => ∃ n, w' = W.drewN n) (fun b => b = a') (pick os bs) a → ReadsTo P ops W (nums k bs) a a'
  | [], os, k, a, _, _, h => by
    have : pick os [] = [] := by cases os <;> rfl
    rw [this] at h
    exact h
  | false :: bs, [], k, a, hk, hb, h => readsTo_from bs [] (k + 1) a (fun j => by have := hk (j + 1); simpa [Nat.add_assoc, Nat.add_comm 1 j] using this) hb (by
      have : pick [] bs = [] := by cases bs <;> rfl
      rw [this]; exact h)
  | true :: bs, [], k, a, hk, hb, h => by
    have h0 := hk 0
    simp only [nums, List.all_cons, Bool.and_eq_true] at hb
    rw [Nat.add_zero] at h0
    rw [← h0] at hb
    simp at hb
  | false :: bs, o :: os, k, a, hk, hb, h => readsTo_from bs os (k + 1) a (fun j => by have := hk (j + 1); simpa [Nat.add_assoc, Nat.add_comm 1 j] using this) hb h
  | true :: bs, o :: os, k, a, hk, hb, h => by
    have ho : ops[k]? = some o := by have := hk 0; simpa using this.symm
    simp only [nums, List.all_cons, Bool.and_eq_true] at hb
    obtain ⟨h1, h2⟩ := hb
    rw [ho] at h1
    simp only [Bool.and_eq_true] at h1
    have hgn : o.guard = none := by simpa using h1.1
    simp only [pick] at h
    unfold wpQuiet at h
    rw [if_pos (by simp [Region.wanted, hgn])] at h
    obtain ⟨v, hv, hnext⟩ := h
    have h0 := hv W ⟨0, rfl⟩
    unfold Oper.quietAt at h0
    refine ⟨o, v, ho, ?_, readsTo_from bs os (k + 1) _ (fun j => by have := hk (j + 1); simpa [Nat.add_assoc, Nat.add_comm 1 j] using this) h2 hnext⟩
    cases hr : (execOp a.eval o).run P W with
    | halt x w' => rw [hr] at h0; exact h0.elim
    | ok n w' =>
      obtain ⟨u, rfl⟩ := read_value h1.2 W w' n hr
      rw [hr] at h0
      obtain ⟨e1, e2⟩ := h0
      rw [e1, e2]

/-- **THE READS OF A REGION THAT DRAWS ITS ORDER, TAKEN FIRST**: bs marks them. -/
theorem anyZ_marks {fuel : Nat} {w : World} {a a' : Act} {l : List Oper} {listed : Array Bool} (bs : List Bool) (hops : ops = l.toArray) (hS : S w) (hQ : ∀ c a d v w, Q (.panic c) (Act.put a d v) w → Q (.panic c) a w)
    (hb : (closedB md ops listed && Region.noSelect ops && takesB md ops z a.tmps.size (nums 0 bs) listed && ((nums 0 bs).all fun i => match ops[i]? with | some o => o.guard.isNone && isRead o.op | none => false)) = true)
    (hr : ∀ W, S W → wpQuiet P ops (fun w' => ∃ n, w' = W.drewN n) (fun b => b = a') (pick l bs) a)
    (h : AnyZ P md ops Q S z fuel (listAll (nums 0 bs) listed) a' w) : AnyZ P md ops Q S z (fuel + (nums 0 bs).length) listed a w := by
  simp only [Bool.and_eq_true] at hb
  obtain ⟨⟨⟨h0, h1⟩, h2⟩, h3⟩ := hb
  refine anyZ_reads h1 hQ hS _ _ _ (closedL_of_B h0) h2 (fun W hW => readsTo_from bs l 0 a (fun j => ?_) h3 (hr W hW)) h
  rw [hops, Nat.zero_add]; simp
end Go.Proofs.Ythjokcjdphempaa
