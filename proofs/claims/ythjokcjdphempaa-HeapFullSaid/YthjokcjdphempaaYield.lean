/- A call of yield in (*Heap).walk's loop. -/
import Derived.Test.YthjokcjdphempaaStep
namespace Go.Proofs.Ythjokcjdphempaa
open Go.RowKit Hp

attribute [local go_sem] Oper.semAt_some

/-- The assignment to the loop's variable in (*Heap).walk. -/
noncomputable def walkAssign : Code :=
  match Try.f41.body with
  | some (.seq _ (.seq _ (.seq _ (.seq (.seq _ (.block _ (.rangeFunc _ _ b _))) _)))) => b
  | _ => .skip

/-- The temporaries at the loop. -/
def walkTmps (E : WEnv) : Array Value :=
  #[.pointer (some ⟨E.hb, 0, none⟩), .func (.func E.g) #[] E.lb, .pointer (some ⟨E.B, 0, none⟩), .pointer (some ⟨E.B + 1, 0, none⟩), .slice none 0 0, .pointer (some ⟨E.B + 2, 0, none⟩), .pointer (some ⟨E.B + 4, 0, none⟩), undef, .map (some (E.B + 3)),
    .pointer (some ⟨E.hb, 0, none⟩), .func (.func 86) #[] #[.pointer (some ⟨E.B + 5, 0, none⟩), .pointer (some ⟨E.B + 6, 0, none⟩)], undef] ++ Array.replicate 30 undef

/-- The loop's record. -/
noncomputable def walkLoop (E : WEnv) (fn : FuncId) (st : LoopState) : Loop := { state := st, pending := none, fn, tmps := walkTmps E, params := #[11], assign := walkAssign, body := walkBody, defers := E.B + 7 }

set_option linter.unusedSimpArgs false in
set_option maxRecDepth 100000 in
set_option maxHeartbeats 1000000 in
theorem yields_round {E : WEnv} {fn : FuncId} {D : Ptr → Prop} {out : List Nat} {W : World} {L : Lay} {s : HS} {G : Areas} {φ : Nat → Int} {lv : Value} (h : WSt E (walkLoop E fn .ready) D out W L s G φ lv) (hE : E.Ok) (hM : MoveOk E)
    (hg : ∀ args w, (callFunc E.g args).run Try.prog w = .ok (.enter E.g args) w) (hlen : out.length ≤ 900000000000) {p : Ptr} {i q n : Nat} (hp : PlaceOk E D out s G φ p i q n) {pb off ln cap : Nat} (hL : L.v i = .slice (some ⟨pb, off, none⟩) ln cap)
    {R : World → Prop} (hR : ∀ W', (∃ L' s' G' φ' lv', WSt E (walkLoop E fn .ready) (fun r => D r ∨ r = p) (addv out n) W' L' s' G' φ' lv' ∧ ∀ k ∈ out, φ' k = φ k) → R W') :
    Yields (E.B + 8) (.pointer (some ⟨pb, off + q, none⟩)) W R := by
  have HR := Lib.hid hR
  clear hR
  unfold Yields YieldAt
  have hsz : (#[Value.pointer (some ⟨pb, off + q, none⟩)] : Array Value).size = (walkLoop E fn .ready).params.size := by simp [walkLoop]
  have hy := run_yield (P := Try.prog) (args := #[.pointer (some ⟨pb, off + q, none⟩)]) h.aux.b8 hsz
  have h2 := h.record hE (walkLoop E fn .busy)
  have hb : (Instr.beginRound (E.B + 8)).run Try.prog W = .ok () (W.putObj (E.B + 8) (.loop (walkLoop E fn .busy))) := run_beginRound (P := Try.prog) h.aux.b8 rfl
  have hround := fun (t0 t1 t4 t8 t9 t10 t11 : Value) => h2.round hE hM hg hlen hp hL (r := E.B + 8) (t0 := t0) (t1 := t1) (t4 := t4) (t8 := t8) (t9 := t9) (t10 := t10) (t11 := t11)
  have Hr := Lib.hid hround
  have Hb := Lib.hid hb
  have HE := Lib.hid hE
  refine ⟨_, _, _, _, hy, ?_⟩
  clear hround h2 hb hE hM hg hlen hp hL h hy
  refine roundIn_of_wpIn (F := Fence.wide) ?hF ?_
  case hF => exact True.intro
  simp only [walkLoop, walkTmps, walkAssign, Try.f41, List.size_toArray, List.length_cons, List.length_nil, Nat.reduceAdd, Nat.reduceSub, Array.replicate_succ, Array.replicate_zero, List.push_toArray, List.append_toArray, List.nil_append, List.cons_append]
  gi_wp2
  have hq := Hr.out (.pointer (some ⟨E.hb, 0, none⟩)) (.func (.func E.g) #[] E.lb) (.slice none 0 0) (.map (some (E.B + 3))) (.pointer (some ⟨E.hb, 0, none⟩)) (.func (.func 86) #[] #[.pointer (some ⟨E.B + 5, 0, none⟩), .pointer (some ⟨E.B + 6, 0, none⟩)]) (.pointer (some ⟨pb, off + q, none⟩))
  simp only [List.size_toArray, List.length_cons, List.length_nil, Nat.reduceAdd, Nat.reduceSub, Array.replicate_succ, Array.replicate_zero, List.push_toArray, List.append_toArray, List.nil_append, List.cons_append] at hq
  refine ⟨_, Hb.out, Go.wpIn_mono hq ?_⟩
  rintro e a w' he
  cases e <;> first | exact he.elim | skip
  obtain ⟨L', s', G', φ', lv', h3, hk⟩ := he
  refine ⟨_, _, run_endRound none h3.aux.b8, rfl, HR.out _ ⟨L', s', G', φ', lv', ?_, hk⟩⟩
  exact h3.record HE.out (walkLoop E fn .ready)
end Go.Proofs.Ythjokcjdphempaa
