/- HeapNil holds: for every act, a law that asks a nil heap and a zero heap for everything answers true, and the act reads as before. No condition. -/
import Derived.Test.YthjokcjdphempaaDov
import Derived.Test.YthjokcjdphempaaRows
import Derived.ProofKit
import Derived.OpenShut
import Derived.Below
import Derived.Carry
import Derived.Lib.SmallJoins
namespace Go.Proofs.Ythjokcjdphempaa
open Go.RowKit Hp Go.Shelf

theorem same_nil {w : World} : Calls Try.prog 16 #[.agg #[.slice none 0 0, .slice none 0 0], .agg #[.slice none 0 0, .slice none 0 0]] w fun e w' => e = .returned (.bool true) ∧ Fr (fun _ => False) w w' :=
  Same_eq (xs := []) (O := []) rfl (.inl ⟨rfl, rfl⟩) (.inl ⟨rfl, rfl⟩) (by omega) (by simp) (.inl ⟨rfl, none, 0, rfl⟩) (.inl ⟨rfl, none, 0, rfl⟩)

theorem do_void' {hp : Option Addr} {kd a b c d : Int} {w : World} (h : Void hp w) (h1 : 0 ≤ kd) : Calls Try.prog 11 #[.pointer hp, .agg #[.int .u8 kd, .int .i64 a, .int .i64 b, .int .i64 c, .int .i64 d]] w fun e w' => e = .returned (.agg #[.int .i64 0, .int .i64 0, .int .i64 0, .int .i64 9]) ∧ Fr (fun _ => False) w w' := do_void h h1

/-- The boxes of the law: the act, and the zero heap. -/
structure ActAt (w : World) (x : Nat) (kd a b c d : Int) : Prop where
  c0 : w.cell? ⟨x, 0, none⟩ = some (.int .u8 kd)
  c1 : w.cell? ⟨x, 1, none⟩ = some (.int .i64 a)
  c2 : w.cell? ⟨x, 2, none⟩ = some (.int .i64 b)
  c3 : w.cell? ⟨x, 3, none⟩ = some (.int .i64 c)
  c4 : w.cell? ⟨x, 4, none⟩ = some (.int .i64 d)

theorem act_at {w w1 : World} {kd a b c d : Int} {o : Obj} (hf : Fr (fun _ => False) ((w.alloc (.cells #[.int .u8 kd, .int .i64 a, .int .i64 b, .int .i64 c, .int .i64 d] 33)).alloc o) w1) : ActAt w1 w.heap.size kd a b c d := by
  have hx : w1.heap[w.heap.size]? = some (.cells #[.int .u8 kd, .int .i64 a, .int .i64 b, .int .i64 c, .int .i64 d] 33 (0, 0)) := by
    rw [hf.block _ (by simp; omega) id, Below.heap_alloc _ _ _ (by simp)]; exact World.alloc_heap_new w (.cells #[.int .u8 kd, .int .i64 a, .int .i64 b, .int .i64 c, .int .i64 d] 33)
  exact ⟨by simp only [World.cell?, hx]; rfl, by simp only [World.cell?, hx]; rfl, by simp only [World.cell?, hx]; rfl, by simp only [World.cell?, hx]; rfl, by simp only [World.cell?, hx]; rfl⟩

theorem zero_at {w : World} {o : Obj} : Void (some ⟨w.heap.size + 1, 0, none⟩) ((w.alloc o).alloc (.cells zeroCells 60)) := by
  refine .inr ⟨w.heap.size + 1, rfl, ?_⟩
  have := World.alloc_heap_new (w.alloc o) (.cells zeroCells 60)
  rwa [show (w.alloc o).heap.size = w.heap.size + 1 by simp] at this

/-- What the law keeps: the zero heap and the two answers of do. -/
structure NilSt (w : World) (b5 b6 : Nat) (W : World) : Prop where
  fr : Fr (fun _ => False) w W
  void : Void (some ⟨w.heap.size + 1, 0, none⟩) W
  at5 : W.heap[b5]? = some (.cells #[.int .i64 0, .int .i64 0, .int .i64 0, .int .i64 9] 30 (0, 0))
  at6 : W.heap[b6]? = some (.cells #[.int .i64 0, .int .i64 0, .int .i64 0, .int .i64 9] 30 (0, 0))

theorem NilSt.of_fr {w W W' : World} {b5 b6 : Nat} (h : NilSt w b5 b6 W) (hf : Fr (fun _ => False) W W') : NilSt w b5 b6 W' :=
  ⟨h.fr.trans hf fun _ h => h.elim, h.void.of_fr hf, by rw [hf.block _ (Array.getElem?_eq_some_iff.1 h.at5).1 id]; exact h.at5, by rw [hf.block _ (Array.getElem?_eq_some_iff.1 h.at6).1 id]; exact h.at6⟩

theorem nine_cells {W : World} {b : Nat} (hx : W.heap[b]? = some (.cells #[.int .i64 0, .int .i64 0, .int .i64 0, .int .i64 9] 30 (0, 0))) : W.cell? ⟨b, 0, none⟩ = some (.int .i64 0) ∧ W.cell? ⟨b, 1, none⟩ = some (.int .i64 0) ∧ W.cell? ⟨b, 2, none⟩ = some (.int .i64 0) ∧ W.cell? ⟨b, 3, none⟩ = some (.int .i64 9) :=
  ⟨by simp only [World.cell?, hx]; rfl, by simp only [World.cell?, hx]; rfl, by simp only [World.cell?, hx]; rfl, by simp only [World.cell?, hx]; rfl⟩

theorem nil_st {w w1 w2 : World} (h : Fr (fun _ => False) w (w1.alloc (.cells #[.int .i64 0, .int .i64 0, .int .i64 0, .int .i64 9] 30))) (hv : Void (some ⟨w.heap.size + 1, 0, none⟩) (w1.alloc (.cells #[.int .i64 0, .int .i64 0, .int .i64 0, .int .i64 9] 30)))
    (hf : Fr (fun _ => False) (w1.alloc (.cells #[.int .i64 0, .int .i64 0, .int .i64 0, .int .i64 9] 30)) w2) : NilSt w w1.heap.size w2.heap.size (w2.alloc (.cells #[.int .i64 0, .int .i64 0, .int .i64 0, .int .i64 9] 30)) := by
  have hf2 := hf.trans (fr_alloc1 w2 (.cells #[.int .i64 0, .int .i64 0, .int .i64 0, .int .i64 9] 30)) fun _ h => h.elim
  refine ⟨h.trans hf2 fun _ h => h.elim, hv.of_fr hf2, ?_, World.alloc_heap_new _ _⟩
  rw [hf2.block _ (by simp) id]
  exact World.alloc_heap_new _ _

set_option maxRecDepth 100000 in
set_option maxHeartbeats 4000000 in
theorem nil_law {kd a b c d : Int} {w : World} (h1 : 0 ≤ kd) : Calls Try.prog 7 #[.agg #[.int .u8 kd, .int .i64 a, .int .i64 b, .int .i64 c, .int .i64 d]] w fun e w' => e = .returned (.bool true) ∧ Fr (fun _ => False) w w' := by
  have HW := Lib.hid ((fr_alloc1 w (.cells #[.int .u8 kd, .int .i64 a, .int .i64 b, .int .i64 c, .int .i64 d] 33)).trans (fr_alloc1 _ (.cells zeroCells 60)) fun _ h => h.elim)
  have q1 : ∀ W, (eqGuard .neq 46 (.tmp 49) (.tmp 50) statV (.agg #[.int .i64 0, .int .i64 0, .int .i64 0, .int .i64 0, .int .i64 0, .int .i64 0])).run Try.prog W = .ok () W := fun _ => by kernel_rfl
  have q2 : ∀ W, (binOp .neq 46 statV (.agg #[.int .i64 0, .int .i64 0, .int .i64 0, .int .i64 0, .int .i64 0, .int .i64 0])).run Try.prog W = .ok (.bool false) W := fun _ => by kernel_rfl
  have q3 : ∀ W, (eqGuard .eql 46 (.tmp 90) (.tmp 91) statV (.agg #[.int .i64 0, .int .i64 0, .int .i64 0, .int .i64 0, .int .i64 0, .int .i64 0])).run Try.prog W = .ok () W := fun _ => by kernel_rfl
  have q4 : ∀ W, (binOp .eql 46 statV (.agg #[.int .i64 0, .int .i64 0, .int .i64 0, .int .i64 0, .int .i64 0, .int .i64 0])).run Try.prog W = .ok (.bool true) W := fun _ => by kernel_rfl
  have q5 : ∀ W, (eqGuard .eql 30 (.tmp 69) (.tmp 70) (.agg #[.int .i64 0, .int .i64 0, .int .i64 0, .int .i64 9]) (.agg #[.int .i64 0, .int .i64 0, .int .i64 0, .int .i64 9])).run Try.prog W = .ok () W := fun _ => by kernel_rfl
  have q6 : ∀ W, (binOp .eql 30 (.agg #[.int .i64 0, .int .i64 0, .int .i64 0, .int .i64 9]) (.agg #[.int .i64 0, .int .i64 0, .int .i64 0, .int .i64 9])).run Try.prog W = .ok (.bool true) W := fun _ => by kernel_rfl
  have q7 : ∀ W, (eqGuard .eql 30 (.tmp 74) (.tmp 75) (.agg #[.int .i64 0, .int .i64 0, .int .i64 0, .int .i64 9]) (.agg #[.int .i64 0, .int .i64 0, .int .i64 0, .int .i64 9])).run Try.prog W = .ok () W := fun _ => by kernel_rfl
  go_enter Try.func7, Try.ntmps7
  go_wp2_with (first
    | (go_at_call 11; first
        | (have q := H1.out
           refine (do_void' HZ.out h1).mono ?_
           rintro e w2 ⟨rfl, hf⟩
           have HS := Lib.hid (nil_st HF.out HZ.out hf)
           clear HF HZ H1 HW c0 c1 c2 c3 c4
           clear hf q)
        | (refine (do_void' (.inl rfl) h1).mono ?_
           rintro e w1 ⟨rfl, hf⟩
           have hf1 := hf.trans (fr_alloc1 w1 (.cells #[.int .i64 0, .int .i64 0, .int .i64 0, .int .i64 9] 30)) fun _ h => h.elim
           have HF := Lib.hid (HW.out.trans hf1 fun _ h => h.elim)
           have HZ := Lib.hid (zero_at.of_fr hf1)
           have H1 := Lib.hid hf1
           obtain ⟨c0, c1, c2, c3, c4⟩ := act_at hf1
           clear hf hf1))
    | (go_at_call 21; refine (Used_void (by first | exact .inl rfl | exact HS.out.void)).mono ?_; rintro e w3 ⟨rfl, hf⟩; have HS := Lib.hid (HS.out.of_fr hf); clear hf)
    | (go_at_call 15; refine (Slots_void (by first | exact .inl rfl | exact HS.out.void)).mono ?_; rintro e w3 ⟨rfl, hf⟩; have HS := Lib.hid (HS.out.of_fr hf); clear hf)
    | (go_at_call 12; refine (Live_void (by first | exact .inl rfl | exact HS.out.void)).mono ?_; rintro e w3 ⟨rfl, hf⟩; have HS := Lib.hid (HS.out.of_fr hf); clear hf)
    | (go_at_call 18; refine (Stat_void (by first | exact .inl rfl | exact HS.out.void)).mono ?_; rintro e w3 ⟨rfl, hf⟩; have HS := Lib.hid (HS.out.of_fr hf); clear hf)
    | (go_at_call 13; refine (Dump_void (by first | exact .inl rfl | exact HS.out.void)).mono ?_; rintro e w3 ⟨rfl, hf⟩; have HS := Lib.hid (HS.out.of_fr hf); clear hf)
    | (go_at_call 16; refine same_nil.mono ?_; rintro e w3 ⟨rfl, hf⟩; have HS := Lib.hid (HS.out.of_fr hf); clear hf))
  have HS := Lib.hid (HS.out.of_fr (show Fr (fun _ => False) w3 w3.drew from ⟨rfl, rfl, rfl, Nat.le_refl _, fun _ _ _ => rfl⟩))
  go_region_with (first
    | (go_at_call 10; refine (sanity_yes _).mono ?_; rintro e w4 ⟨rfl, hf⟩; have HS := Lib.hid (HS.out.of_fr hf); obtain ⟨k0, k1, k2, k3⟩ := nine_cells HS.out.at5; obtain ⟨j0, j1, j2, j3⟩ := nine_cells HS.out.at6; clear hf)
    | (go_at_call 25; refine (only_any (x := 9)).mono ?_; rintro e w4 ⟨rfl, hf⟩; have HS := Lib.hid (HS.out.of_fr hf); obtain ⟨k0, k1, k2, k3⟩ := nine_cells HS.out.at5; obtain ⟨j0, j1, j2, j3⟩ := nine_cells HS.out.at6; clear hf)
    | (go_at_call 15; refine (Slots_void HS.out.void).mono ?_; rintro e w4 ⟨rfl, hf⟩; have HS := Lib.hid (HS.out.of_fr hf); obtain ⟨k0, k1, k2, k3⟩ := nine_cells HS.out.at5; obtain ⟨j0, j1, j2, j3⟩ := nine_cells HS.out.at6; clear hf)
    | (go_at_call 12; refine (Live_void HS.out.void).mono ?_; rintro e w4 ⟨rfl, hf⟩; have HS := Lib.hid (HS.out.of_fr hf); obtain ⟨k0, k1, k2, k3⟩ := nine_cells HS.out.at5; obtain ⟨j0, j1, j2, j3⟩ := nine_cells HS.out.at6; clear hf)
    | (go_at_call 18; refine (Stat_void HS.out.void).mono ?_; rintro e w4 ⟨rfl, hf⟩; have HS := Lib.hid (HS.out.of_fr hf); obtain ⟨k0, k1, k2, k3⟩ := nine_cells HS.out.at5; obtain ⟨j0, j1, j2, j3⟩ := nine_cells HS.out.at6; clear hf))
  all_goals (go_wp2; go_ret; exact ⟨rfl, HS.out.fr⟩)
end Go.Proofs.Ythjokcjdphempaa

namespace Go.Proofs.Ythjokcjdphempaa
open Go.ChangeShapes Go.WideShapes Go.ChangeAt Go.RowKit Go.Joins

theorem own : ownKnob Try.prog.godebug = none := by kernel_rfl
theorem laidOut : laidOutB Try.prog = true := by kernel_rfl

section
variable {H : Type} {P : Program} {enc : TypeId × Value → H} {w : World} {base : Nat} {spare : Nat → Bool} {held : Bool}

theorem array5 {α : Type} {cs : Array α} (h : cs.size = 5) : ∃ c0 c1 c2 c3 c4, cs = #[c0, c1, c2, c3, c4] := by
  obtain ⟨l⟩ := cs
  match l, h with
  | [c0, c1, c2, c3, c4], _ => exact ⟨c0, c1, c2, c3, c4, rfl⟩

theorem trod_struct5 {t : TypeId} {f0 f1 f2 f3 f4 : Field} {fuel : Nat} {cs : List Value} {x : DataW H × List MemPlace} (ht : P.underlying t = some (.struct #[f0, f1, f2, f3, f4])) (h : DataW.trod enc P w base spare held fuel t cs = some x) :
    ∃ y0 y1 y2 y3 y4 n, x = (.agg [y0.1, y1.1, y2.1, y3.1, y4.1], y0.2 ++ (y1.2 ++ (y2.2 ++ (y3.2 ++ y4.2)))) ∧ DataW.trod enc P w base spare held n f0.type ((cs.drop f0.offset).take (P.cellsOf f0.type)) = some y0 ∧
      DataW.trod enc P w base spare held n f1.type ((cs.drop f1.offset).take (P.cellsOf f1.type)) = some y1 ∧ DataW.trod enc P w base spare held n f2.type ((cs.drop f2.offset).take (P.cellsOf f2.type)) = some y2 ∧
      DataW.trod enc P w base spare held n f3.type ((cs.drop f3.offset).take (P.cellsOf f3.type)) = some y3 ∧ DataW.trod enc P w base spare held n f4.type ((cs.drop f4.offset).take (P.cellsOf f4.type)) = some y4 := by
  obtain ⟨xs, n, _, rfl, hl, hlen, hf⟩ := DataW.trod_struct ht h
  match xs, hlen with
  | [y0, y1, y2, y3, y4], _ => exact ⟨y0, y1, y2, y3, y4, n, by simp, by simpa using hf 0 f0 rfl, by simpa using hf 1 f1 rfl, by simpa using hf 2 f2 rfl, by simpa using hf 3 f3 rfl, by simpa using hf 4 f4 rfl⟩
end

/-- The reading of an act. -/
theorem open_act {H : Type} {enc : TypeId × Value → H} {W : World} {spare : Nat → Bool} {held : Bool} {r : Reach} {b0 : Nat} {v : Value} {d : DataW H} {p : List MemPlace} (hv : Value.okWide Try.prog W r b0 33 v) (h : DataW.Trod enc Try.prog W 0 spare held 33 v d p) :
    ∃ kd a b c e : Int, v = .agg #[.int .u8 kd, .int .i64 a, .int .i64 b, .int .i64 c, .int .i64 e] ∧ 0 ≤ kd := by
  obtain ⟨cs, rfl, hsz⟩ := okWide_struct Try.underlying33 hv
  obtain ⟨c0, c1, c2, c3, c4, rfl⟩ := array5 (hsz.trans (show Try.prog.cellsOf 33 = 5 by kernel_rfl))
  obtain ⟨fuel, hf⟩ := h
  obtain ⟨y0, y1, y2, y3, y4, n, hx, h0, h1, h2, h3, h4⟩ := trod_struct5 Try.underlying33 hf
  have z5 : Try.prog.cellsOf 5 = 1 := by kernel_rfl
  have z3 : Try.prog.cellsOf 3 = 1 := by kernel_rfl
  simp [Value.cells, z5, z3] at h0 h1 h2 h3 h4
  obtain ⟨kd, e0, _, wk⟩ := DataW.trod_int Try.underlying5 h0
  obtain ⟨a, e1, _, _⟩ := DataW.trod_int Try.underlying3 h1
  obtain ⟨b, e2, _, _⟩ := DataW.trod_int Try.underlying3 h2
  obtain ⟨c, e3, _, _⟩ := DataW.trod_int Try.underlying3 h3
  obtain ⟨e, e4, _, _⟩ := DataW.trod_int Try.underlying3 h4
  simp at e0 e1 e2 e3 e4
  subst e0 e1 e2 e3 e4
  exact ⟨kd, a, b, c, e, rfl, (bounds_u8 wk).1⟩

set_option maxRecDepth 100000 in
theorem nil_lifted (os : Os) (started : os.Started) (H : Type) (enc : TypeId × Value → H) :
    ReturnsInHanded {} Try.checked os 7 .any (Rows.heapNilSpec.pre6 enc Try.prog Try.f7 Rows.heapNilRow.domain false) (Rows.heapNilSpec.post enc Try.prog Try.f7 false true false false) := by
  refine returnsInHanded_of_change (C := Try.checked) own started (by kernel_rfl) Try.func7
    (ChangeSpec.witness6 (enc := enc) (C := Try.checked) false ⟨#[], #[.agg #[.int .u8 0, .int .i64 0, .int .i64 0, .int .i64 0, .int .i64 0]], []⟩ 8 (by kernel_rfl) (by kernel_rfl) (by kernel_rfl) (by kernel_rfl)) ?_
  intro W base args ds gs before hval0 hW hcnd _
  have hval : ∀ (j : Nat) t v, Try.f7.params[j]? = some t → args[j]? = some v → Value.okWide Try.prog W .any base t v := hval0
  have hW' := hW
  obtain ⟨p, q, hA0, hV, rfl, hfz, hnd⟩ := hW
  have hA : DataW.TrodAll enc Try.prog W 0 (fun _ => true) true Try.f7.params.toList args.toList ds p := hA0
  rw [Try.params7] at hA hval
  obtain ⟨v0, vs0, d0, ds0, p0, q0, hargs, rfl, rfl, h0, r0⟩ := trodAll_cons hA
  obtain ⟨rfl, rfl, rfl⟩ := trodAll_nil r0
  obtain rfl : args = #[v0] := by cases args; simp_all
  obtain ⟨rfl, rfl⟩ := trodVars_none hV
  have k0 := h0
  have lt0 : ∀ x ∈ p0, x.block < W.heap.size := by obtain ⟨m, hm⟩ := k0; exact DataW.trod_lt m _ _ _ hm
  obtain ⟨kd, a, b, c, e, rfl, hk⟩ := open_act (hval 0 33 v0 rfl rfl) h0
  clear hA0 hval0
  refine (nil_law hk).mono fun e W' ⟨he, hfr⟩ => ?_
  have bel : Below W.heap.size W W' := ⟨hfr.os, hfr.tape, hfr.output, hfr.size, fun k hk => hfr.block k hk id⟩
  subst he
  exact ⟨_, rfl, _, _, _, [], _, [], hW', trodAll_mk1 (shut_bool Try.underlying4 _), (trodAll_cons_mk (Below.trod laidOut (by kernel_rfl) (of_decide_eq_true (by kernel_rfl)) k0 bel lt0) trodAll_mk0), rfl, bel.frame _, fun h => by cases h⟩

theorem nil_over : Rows.heapNilRow.holds Try.pinned (OpenSpec.ofChange Rows.heapNilSpec) :=
  OpenClaim.holds_of_wide 7 Try.f7 rfl rfl rfl rfl rfl rfl rfl ⟨rfl, rfl, rfl, rfl, rfl⟩ rfl rfl rfl rfl rfl (by kernel_rfl) Try.func7 (by kernel_rfl)
    (of_decide_eq_true (by kernel_rfl)) (by unfold Func.isWrapper; rw [if_neg (of_decide_eq_false (by kernel_rfl))]; exact ⟨rfl, rfl⟩)
    (fun os started H enc _ => nil_lifted os started H enc)

/-- The statement. -/
theorem heap_nil : Rows.HeapNilSaid := nil_over
end Go.Proofs.Ythjokcjdphempaa
