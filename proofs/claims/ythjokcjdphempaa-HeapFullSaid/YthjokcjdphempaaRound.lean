/- Code in the frame of a round of a range over a function, out of code walked as any other. -/
import Derived.RangeFuncRecord
import Derived.RangeFuncIn
import Derived.Orders
import Derived.Tactics
import Derived.TacticsIn
import Derived.RangeFuncCalls
namespace Go.Proofs.Ythjokcjdphempaa
variable {P : Program} {ops : Array Oper} {Q : Exit → Act → World → Prop} {r n : Nat}

theorem wpOpsIn_round (hnd : (ops.all fun o => !(o.op matches .defer _)) = true) (hout : ¬ LetsOut Q) : ∀ (l : List Nat) (a : Act) (w : World), wpOps P ops Q l a w → wpOpsIn (Fence.wide.inRound r) n P ops Q l a w := by
  intro l
  induction l with
  | nil => intro a w h; exact h
  | cons i l ih =>
    intro a w h
    unfold wpOps at h
    unfold wpOpsIn
    cases ho : ops[i]? with
    | none => simp only [ho] at h ⊢; exact ih a w h
    | some o =>
      simp only [ho] at h ⊢
      by_cases hw : Region.wanted o (yielded ops a.tmps) = true
      · simp only [hw, if_true] at h ⊢
        have h := h.resolve_right (fun h => hout h.2)
        refine ⟨fun _ _ => trivial, ?_⟩
        have hd : ∀ c, o.op ≠ .defer c := by
          intro c e
          rw [Array.all_eq_true'] at hnd
          have := hnd o (Array.mem_of_getElem? ho)
          rw [e] at this
          simp at this
        rw [Oper.semAt_eq _ _ _ hd]
        unfold Oper.wp at h
        generalize (execOp a.eval o).run P w = res at h ⊢
        cases res with
        | halt x w' => cases x <;> first | exact h | exact h.elim
        | ok nx w' =>
          cases nx <;> simp only [Oper.upon, Oper.uponIn] at h ⊢
          case value v => exact ih _ _ h
          case skip => exact ih _ _ h
          case defer d => exact ih _ _ h
          case enter f args =>
            refine ⟨fun hx => by simp [Fence.wide] at hx, ?_⟩
            refine CallsIn.inRound r (callsIn_wide.2 (h.mono fun e w'' he => ?_))
            cases e with
            | returned v => exact ih _ _ he
            | panicked c => exact he
            | outgrown => exact he
          case row row args =>
            refine ⟨fun hx => by simp [Fence.wide] at hx, fun c cs _ => ?_⟩
            obtain ⟨v, w3, hR, hs⟩ := h c cs
            exact ⟨v, w3, ih _ _ hR, stepsIn_wide.2 hs⟩
      · simp only [hw] at h ⊢
        exact ⟨fun _ _ => trivial, ih _ _ h⟩

theorem round_region {id : Nat} {a : Act} {w : World} (hnd : (ops.all fun o => !(o.op matches .defer _)) = true) (hout : ¬ LetsOut Q) (h : wpOps P ops Q (List.range ops.size) a w) :
    (Code.region id ops false).wpIn (Fence.wide.inRound r) n P Q a w := wpIn_region (wpOpsIn_round hnd hout _ _ _ h)

theorem round_region_any {id : Nat} {a : Act} {w : World} (hm : P.follows .mixedOrders = true) (hnd : (ops.all fun o => !(o.op matches .defer _)) = true) (hout : ¬ LetsOut Q)
    (h : wpAny P .any ops Q ops.size (Array.replicate ops.size false) a w.drew) : (Code.region id ops true).wpIn (Fence.wide.inRound r) n P Q a w :=
  wpIn_region_draw fun t => wpOpsIn_round hnd hout _ _ _ (by
    simp only [Region.schedule, hm, Bool.true_or, if_true]
    exact wpAny_sound ops.size t _ a _ h)

/-- A region that does not draw, as the list of its operations. -/
theorem round_region_list {id : Nat} {l : List Oper} {a : Act} {w : World} (hnd : (l.toArray.all fun o => !(o.op matches .defer _)) = true) (hout : ¬ LetsOut Q) (h : wpList P l.toArray Q l a w) :
    (Code.region id l.toArray false).wpIn (Fence.wide.inRound r) n P Q a w := by
  refine round_region hnd hout ?_
  rw [List.range_eq_range', show l.toArray.size = l.length by simp, wpOps_eq_wpList l 0 (by simp)]
  exact h
end Go.Proofs.Ythjokcjdphempaa
