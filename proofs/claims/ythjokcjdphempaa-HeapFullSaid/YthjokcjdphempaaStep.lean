/- What holds in memory while (*Heap).walk goes through all reachable objects, and one round of it. -/
import Derived.Test.YthjokcjdphempaaBody
namespace Go.Proofs.Ythjokcjdphempaa
open Go.RowKit Hp

/-- Two slices of one array. -/
def SameBase (v v' : Value) : Prop := ∃ a n n' cap, v = .slice a n cap ∧ v' = .slice a n' cap

theorem SameBase.own {v v' : Value} (h : SameBase v v') : v'.ownBlock = v.ownBlock := by
  obtain ⟨a, n, n', c, rfl, rfl⟩ := h
  cases a <;> rfl

theorem _root_.Go.Proofs.Ythjokcjdphempaa.Hp.WInv.mono {A : AHeap} {mv : Option Nat} {quiet : Prop} {s0 : HS} {G0 : Areas} {φ0 : Nat → Int} {D D' : Ptr → Prop} {out : List Nat} {s : HS} {G : Areas} {φ : Nat → Int}
    (h : WInv A mv quiet s0 G0 φ0 D out s G φ) (hd : ∀ p, D' p → D p) : WInv A mv quiet s0 G0 φ0 D' out s G φ :=
  { h with
    rep := h.rep.mono hd
    dslot := fun i n hn hp => h.dslot i n hn (hd _ hp)
    dfield := fun m k n hm hn hp => h.dfield m k n hm hn (hd _ hp) }

/-- What a walk starts from. -/
structure WEnv where
  hb : Nat
  B : Nat
  g : Nat
  lb : Array Value
  A : AHeap
  mv : Option Nat
  quiet : Prop
  s0 : HS
  G0 : Areas
  φ0 : Nat → Int
  L0 : Lay
  w0 : World

structure WEnv.Ok (E : WEnv) : Prop where
  size : E.w0.heap.size = E.B
  foot : ∀ k, E.L0.foot E.hb k → k < E.B
  small : ∀ k, k < 3 → (E.s0.ar k).length ≤ 200000000000
  count : E.A.objs.length ≤ 900000000000
  nslots : E.A.slots.length ≤ 1000000000000
  area : ∀ a, E.mv = some a → a < 3

/-- The walk's own blocks: boxes, map, list, the loop's record. -/
structure WAux (E : WEnv) (lr : Loop) (w : World) (lv : Value) (xs : List Int) : Prop where
  b0 : w.heap[E.B]? = some (.cells #[.pointer (some ⟨E.hb, 0, none⟩)] 23 (0, 0))
  b1 : w.heap[E.B + 1]? = some (.cells #[.func (.func E.g) #[] E.lb] 78 (0, 0))
  b2 : w.heap[E.B + 2]? = some (.cells #[lv] 35 (0, 0))
  b3 : IsMap w (E.B + 3) xs (fun _ => .bool true)
  b4 : w.heap[E.B + 4]? = some (.cells #[.map (some (E.B + 3))] 91 (0, 0))
  b5 : w.heap[E.B + 5]? = some (.cells #[.pointer (some ⟨E.hb, 0, none⟩)] 23 (0, 0))
  b6 : w.heap[E.B + 6]? = some (.cells #[.pointer (some ⟨E.B + 2, 0, none⟩)] 95 (0, 0))
  b7 : w.heap[E.B + 7]? = some (.deferred (some []))
  b8 : w.heap[E.B + 8]? = some (.loop lr)
  l : IsSl w lv xs
  own : ∀ k, lv.ownBlock = some k → E.B + 9 ≤ k

theorem WAux.lt {E : WEnv} {lr : Loop} {w : World} {lv : Value} {xs : List Int} (h : WAux E lr w lv xs) : E.B + 8 < w.heap.size := (Array.getElem?_eq_some_iff.1 h.b8).1

/-- A step that leaves the walk's own blocks as they are. -/
theorem WAux.of_same {E : WEnv} {lr : Loop} {w w' : World} {lv : Value} {xs : List Int} (h : WAux E lr w lv xs) (hs : ∀ k, E.B ≤ k → k < w.heap.size → w'.heap[k]? = w.heap[k]?) : WAux E lr w' lv xs := by
  have hl := h.lt
  exact {
    b0 := (hs _ (by omega) (by omega)).trans h.b0
    b1 := (hs _ (by omega) (by omega)).trans h.b1
    b2 := (hs _ (by omega) (by omega)).trans h.b2
    b3 := h.b3.of_block (hs _ (by omega) (by omega))
    b4 := (hs _ (by omega) (by omega)).trans h.b4
    b5 := (hs _ (by omega) (by omega)).trans h.b5
    b6 := (hs _ (by omega) (by omega)).trans h.b6
    b7 := (hs _ (by omega) (by omega)).trans h.b7
    b8 := (hs _ (by omega) (by omega)).trans h.b8
    l := h.l.of_block fun k hk => hs k (by have := h.own k hk; omega) (h.l.lt hk)
    own := h.own }

theorem WAux.of_fr {E : WEnv} {lr : Loop} {w w' : World} {lv : Value} {xs : List Int} {P : Nat → Prop} (h : WAux E lr w lv xs) (hf : Fr P w w') (hP : ∀ k, P k → k < E.B) : WAux E lr w' lv xs :=
  h.of_same fun k hk hlt => hf.block k hlt fun hp => by have := hP k hp; omega

/-- The loop's record turns. -/
theorem WAux.record {E : WEnv} {lr : Loop} {w : World} {lv : Value} {xs : List Int} (h : WAux E lr w lv xs) (lr' : Loop) : WAux E lr' (w.putObj (E.B + 8) (.loop lr')) lv xs := by
  have hs : ∀ k, k ≠ E.B + 8 → (w.putObj (E.B + 8) (.loop lr')).heap[k]? = w.heap[k]? := fun k hk => World.putObj_heap_other hk
  exact {
    b0 := (hs _ (by omega)).trans h.b0
    b1 := (hs _ (by omega)).trans h.b1
    b2 := (hs _ (by omega)).trans h.b2
    b3 := h.b3.of_block (hs _ (by omega))
    b4 := (hs _ (by omega)).trans h.b4
    b5 := (hs _ (by omega)).trans h.b5
    b6 := (hs _ (by omega)).trans h.b6
    b7 := (hs _ (by omega)).trans h.b7
    b8 := World.putObj_heap_same h.lt
    l := h.l.of_block fun k hk => hs k (by have := h.own k hk; omega)
    own := h.own }

/-- The state of a walk. -/
structure WSt (E : WEnv) (lr : Loop) (D : Ptr → Prop) (out : List Nat) (w : World) (L : Lay) (s : HS) (G : Areas) (φ : Nat → Int) (lv : Value) : Prop where
  rep : HRep w E.hb L s
  inv : WInv E.A E.mv E.quiet E.s0 E.G0 E.φ0 D out s G φ
  base : ∀ i, i < 5 → SameBase (E.L0.v i) (L.v i)
  fr : Fr (E.L0.foot E.hb) E.w0 w
  aux : WAux E lr w lv (out.map φ)

theorem fr_of_heap {P : Nat → Prop} {w0 w w' : World} (h : Fr P w0 w) (hh : w'.heap = w.heap) (h1 : w'.os = w.os) (h2 : w'.tape = w.tape) (h3 : w'.output = w.output) : Fr P w0 w' :=
  ⟨h1.trans h.os, h2.trans h.tape, h3.trans h.output, by rw [hh]; exact h.size, fun k hk hn => by rw [hh]; exact h.block k hk hn⟩

section
variable {E : WEnv} {lr : Loop} {D : Ptr → Prop} {out : List Nat} {w : World} {L : Lay} {s : HS} {G : Areas} {φ : Nat → Int} {lv : Value}

theorem WSt.of_heap {w' : World} (h : WSt E lr D out w L s G φ lv) (hh : w'.heap = w.heap) (h1 : w'.os = w.os) (h2 : w'.tape = w.tape) (h3 : w'.output = w.output) : WSt E lr D out w' L s G φ lv :=
  ⟨h.rep.of_heap hh, h.inv, h.base, fr_of_heap h.fr hh h1 h2 h3, h.aux.of_same fun k _ _ => by rw [hh]⟩

theorem WSt.drew (h : WSt E lr D out w L s G φ lv) : WSt E lr D out w.drew L s G φ lv := h.of_heap rfl rfl rfl rfl
theorem WSt.drewN (h : WSt E lr D out w L s G φ lv) (n : Nat) : WSt E lr D out (w.drewN n) L s G φ lv := h.of_heap rfl rfl rfl rfl

theorem WSt.mono {D' : Ptr → Prop} (h : WSt E lr D out w L s G φ lv) (hd : ∀ p, D' p → D p) : WSt E lr D' out w L s G φ lv := ⟨h.rep, h.inv.mono hd, h.base, h.fr, h.aux⟩

theorem WSt.record (h : WSt E lr D out w L s G φ lv) (hE : E.Ok) (lr' : Loop) : WSt E lr' D out (w.putObj (E.B + 8) (.loop lr')) L s G φ lv := by
  have hfoot : ∀ k, L.foot E.hb k → k < E.B := by
    intro k hk
    rcases hk with rfl | ⟨i, hi, hk⟩
    · exact hE.foot _ (.inl rfl)
    · exact hE.foot _ (.inr ⟨i, hi, by rw [← (h.base i hi).own]; exact hk⟩)
  have hf : Fr (fun k => k = E.B + 8) w (w.putObj (E.B + 8) (.loop lr')) := ⟨rfl, rfl, rfl, by simp, fun k _ hn => World.putObj_heap_other hn⟩
  refine ⟨h.rep.of_fr hf fun k hk e => by have := hfoot k hk; omega, h.inv, h.base, ?_, h.aux.record lr'⟩
  exact (h.fr.trans hf fun j hj => .inr (by rw [hE.size]; omega))

theorem WSt.foot (h : WSt E lr D out w L s G φ lv) (hE : E.Ok) : ∀ k, L.foot E.hb k → E.L0.foot E.hb k ∧ k < E.B := by
  intro k hk
  rcases hk with rfl | ⟨i, hi, hk⟩
  · exact ⟨.inl rfl, hE.foot _ (.inl rfl)⟩
  · have : E.L0.foot E.hb k := .inr ⟨i, hi, by rw [← (h.base i hi).own]; exact hk⟩
    exact ⟨this, hE.foot _ this⟩

theorem WSt.small (h : WSt E lr D out w L s G φ lv) (hE : E.Ok) : Small s := by
  refine ⟨fun k hk => ?_⟩
  have h0 := hE.small k hk
  cases hmv : E.mv with
  | none =>
    have := (h.inv.still (.inl hmv)).2.1 k
    omega
  | some a =>
    obtain ⟨ha, hna, hf, ⟨c, _, hc, hl⟩, ho⟩ := h.inv.acc a hmv
    have h1 := hE.small a ha
    by_cases e : k = E.s0.now
    · subst e; omega
    · have := ho k e; omega
end

/-- What the function that may move objects promises. -/
def MoveOk (E : WEnv) : Prop :=
  ∀ lr D out w L s G φ lv m, WSt E lr D out w L s G φ lv → Hp.Reach E.A m → ∃ n', Calls Try.prog E.g (#[.int .i64 (φ m)] ++ E.lb) w fun e w1 => e = .returned (.int .i64 n') ∧
    ∃ L1 s1 G1 φ1, n' = φ1 m ∧ WSt E lr D out w1 L1 s1 G1 φ1 lv ∧ (∀ a, E.mv = some a → aOf (φ1 m) ≠ a) ∧ (∀ k ∈ out, φ1 k = φ k) ∧
      (∀ i, i < 5 → (∀ a, E.mv = some a → i ≠ a) → ∀ q, q < (s.sl i).length → q < (s1.sl i).length ∧ (s1.sl i).getD q 0 = (s.sl i).getD q 0)
end Go.Proofs.Ythjokcjdphempaa

namespace Go.Proofs.Ythjokcjdphempaa
open Go.RowKit Hp

/-- A place of a reference: p in the plain law, number q of the list i of the heap; n: the number that it stands for. -/
structure PlaceOk (E : WEnv) (D : Ptr → Prop) (out : List Nat) (s : HS) (G : Areas) (φ : Nat → Int) (p : Ptr) (i q n : Nat) : Prop where
  lt : i < 5
  off : ∀ a, E.mv = some a → i ≠ a
  inside : q < (s.sl i).length
  ref : RefOk G φ s.now ((s.sl i).getD q 0) n
  reach : ∀ m, n = m + 1 → Hp.Reach E.A m
  skip : (s.sl i).getD q 0 = 0 → WInv E.A E.mv E.quiet E.s0 E.G0 E.φ0 (fun r => D r ∨ r = p) out s G φ
  write : ∀ s1 G1 φ1 out1, WInv E.A E.mv E.quiet E.s0 E.G0 E.φ0 D out1 s1 G1 φ1 → (∀ k ∈ out, φ1 k = φ k) → (∀ m, n = m + 1 → m ∈ out1) →
    ∃ G2, WInv E.A E.mv E.quiet E.s0 E.G0 E.φ0 (fun r => D r ∨ r = p) out1 (s1.setSl i ((s1.sl i).set q (phi φ1 n))) G2 φ1

theorem ref_zero {G : Areas} {φ : Nat → Int} {now n : Nat} {x : Int} (h : RefOk G φ now x n) (hp : ∀ m, n = m + 1 → 1 ≤ φ m) (hx : x = 0) : n = 0 := by
  rcases h with h | ⟨m, o, _, hl, _⟩
  · cases n with
    | zero => rfl
    | succ m => have := hp m rfl; rw [hx] at h; simp only [phi] at h; omega
  · have := hl.1; omega

section
variable {E : WEnv} {lr : Loop} {D : Ptr → Prop} {out : List Nat} {w : World} {L : Lay} {s : HS} {G : Areas} {φ : Nat → Int} {lv : Value}

theorem WSt.reach (h : WSt E lr D out w L s G φ lv) : out.length ≤ E.A.objs.length ∨ ¬ out.Nodup := by
  by_cases hn : out.Nodup
  · exact .inl (nodup_length_le _ _ hn fun m hm => (h.inv.reach m hm).lt h.inv.rep.wf)
  · exact .inr hn

theorem place_slot (h : WSt E lr D out w L s G φ lv) {q n : Nat} (hmv : ∀ a, E.mv = some a → a < 3) (hn : E.A.slots[q]? = some n) : PlaceOk E D out s G φ (.slot q) 3 q n := by
  have hq : q < s.slots.length := by rw [h.inv.rep.slen]; exact (List.getElem?_eq_some_iff.1 hn).1
  have hx : s.slots[q]? = some ((s.sl 3).getD q 0) := by
    show _ = some (s.slots.getD q 0)
    rw [List.getD_eq_getElem?_getD, List.getElem?_eq_getElem hq]; rfl
  have href := (h.inv.rep.slot q _ n hx hn).1
  have hre : ∀ m, n = m + 1 → Hp.Reach E.A m := fun m e => .slot (by rw [← e]; exact List.mem_of_getElem? hn)
  refine ⟨by omega, fun a ha => by have := hmv a ha; omega, hq, href, hre, fun hz => ?_, ?_⟩
  · refine h.inv.skip (.slot q) (fun j e x n' hx' hn' => ?_) (fun m k e => by cases e)
    cases e
    rw [hx] at hx'; cases hx'
    rw [hn] at hn'; cases hn'
    exact ⟨ref_zero href (fun m e => h.inv.rep.pos (hre m e)) hz, hz⟩
  · intro s1 G1 φ1 out1 h1 _ ho
    exact ⟨G1, h1.writeSlot hn ho⟩

theorem place_field (h : WSt E lr D out w L s G φ lv) {m k n : Nat} (hm : m ∈ out) (hn : (E.A.obj m).refs[k]? = some n) : PlaceOk E D out s G φ (.field m k) (aOf (φ m)) (pOf (φ m) + (k + 1)) n := by
  have hr := h.inv.reach m hm
  obtain ⟨fs, h1, h2, h3⟩ := h.inv.rep.obj m hr
  have hk : k < fs.length := by rw [h2]; exact (List.getElem?_eq_some_iff.1 hn).1
  have ha := h1.2.1
  obtain ⟨f1, f2, f3⟩ := h.inv.rep.first h1
  have hsl : s.sl (aOf (φ m)) = s.ar (aOf (φ m)) := sl_ar s ha
  have hx : fs[k]? = some ((s.sl (aOf (φ m))).getD (pOf (φ m) + (k + 1)) 0) := by
    rw [hsl, h.inv.rep.flat _ ha]
    have := h1.2.2.get (k := k + 1) (by simp; omega)
    rw [List.getD_eq_getElem?_getD, this]
    rw [List.getElem?_cons_succ, List.getElem?_append_left hk, List.getElem?_eq_getElem hk]; rfl
  have href := (h3 k _ n hx hn).1
  have hre : ∀ m', n = m' + 1 → Hp.Reach E.A m' := fun m' e => .ref hr (by rw [← e]; exact List.mem_of_getElem? hn)
  refine ⟨by omega, fun a ea e => h.inv.off a ea m hm e, ?_, href, hre, fun hz => ?_, ?_⟩
  · rw [hsl]; simp at f2; omega
  · refine h.inv.skip (.field m k) (fun j e => by cases e) (fun m' k' e n' hn' => ?_)
    cases e
    rw [hn] at hn'; cases hn'
    refine ⟨ref_zero href (fun m e => h.inv.rep.pos (hre m e)) hz, fun fs' h1' h2' => ?_⟩
    have hu := HasObj.unique (h.inv.rep.ne ha) h1.2.2 h1'.2.2
    have : fs' = fs := by
      have := hu
      simp at this
      exact this.symm
    rw [this, hx, hz]
  · intro s1 G1 φ1 out1 hi hk1 ho
    obtain ⟨G2, hw⟩ := hi.writeField hr hn ho
    have e := hk1 m hm
    rw [e] at hw
    refine ⟨G2, ?_⟩
    rw [setSl_ar _ _ ha, sl_ar _ ha]
    exact hw

theorem cell_of_box {w : World} {b : Nat} {v : Value} {t : TypeId} (h : w.heap[b]? = some (.cells #[v] t (0, 0))) : w.cell? ⟨b, 0, none⟩ = some v ∧ w.frozen? ⟨b, 0, none⟩ = false := by
  constructor <;> simp [World.cell?, World.frozen?, h]

theorem HRep.place (h : HRep w E.hb L s) {i q : Nat} (hi : i < 5) (hq : q < (s.sl i).length) : ∃ pb off cap, L.v i = .slice (some ⟨pb, off, none⟩) (s.sl i).length cap ∧ (s.sl i).length ≤ cap ∧
    w.cell? ⟨pb, off + q, none⟩ = some (.int .i64 ((s.sl i).getD q 0)) ∧ w.frozen? ⟨pb, off + q, none⟩ = false := by
  obtain ⟨b, off, cap, e, h1, h2, _⟩ := (h.sl i hi).get hq
  refine ⟨b, off, cap, e, h1, h2 q hq, ?_⟩
  rcases h.sl i hi with ⟨_, hz⟩ | ⟨b', off', cap', cs, e', hb', _⟩
  · rw [hz] at hq; simp at hq
  · rw [e'] at e; cases e; simp [World.frozen?, hb']

theorem base_place {w1 : World} {L1 : Lay} {s1 : HS} {G1 : Areas} {φ1 : Nat → Int} (h : WSt E lr D out w L s G φ lv) (h1 : WSt E lr D out w1 L1 s1 G1 φ1 lv) {p : Ptr} {i q n : Nat} (hp : PlaceOk E D out s G φ p i q n) {pb off ln cap : Nat}
    (hL : L.v i = .slice (some ⟨pb, off, none⟩) ln cap)
    (hsame : ∀ i, i < 5 → (∀ a, E.mv = some a → i ≠ a) → ∀ q, q < (s.sl i).length → q < (s1.sl i).length ∧ (s1.sl i).getD q 0 = (s.sl i).getD q 0) :
    q < (s1.sl i).length ∧ ∃ n1, L1.v i = .slice (some ⟨pb, off, none⟩) n1 cap := by
  refine ⟨(hsame i hp.lt hp.off q hp.inside).1, ?_⟩
  obtain ⟨a, n1, n2, c, e1, e2⟩ := h.base i hp.lt
  obtain ⟨a', n1', n2', c', e1', e2'⟩ := h1.base i hp.lt
  rw [hL] at e2
  rw [e1] at e1'
  cases e1'; cases e2
  exact ⟨n2', e2'⟩

set_option maxHeartbeats 1000000 in
/-- **One round of the walk.** -/
theorem WSt.round (h : WSt E lr D out w L s G φ lv) (hE : E.Ok) (hM : MoveOk E) (hg : ∀ args w, (callFunc E.g args).run Try.prog w = .ok (.enter E.g args) w) (hlen : out.length ≤ 900000000000)
    {p : Ptr} {i q n : Nat} (hp : PlaceOk E D out s G φ p i q n) {pb off ln cap : Nat} (hL : L.v i = .slice (some ⟨pb, off, none⟩) ln cap) {r : Nat} {t0 t1 t4 t8 t9 t10 t11 : Value} :
    walkBody.wpIn (Fence.wide.inRound r) 0 Try.prog (roundEnd fun w' => ∃ L' s' G' φ' lv', WSt E lr (fun r => D r ∨ r = p) (addv out n) w' L' s' G' φ' lv' ∧ ∀ k ∈ out, φ' k = φ k)
      { tmps := #[t0, t1, .pointer (some ⟨E.B, 0, none⟩), .pointer (some ⟨E.B + 1, 0, none⟩), t4, .pointer (some ⟨E.B + 2, 0, none⟩), .pointer (some ⟨E.B + 4, 0, none⟩), .pointer (some ⟨pb, off + q, none⟩), t8, t9, t10, t11] ++ Array.replicate 30 undef, defers := [] } w := by
  obtain ⟨pb', off', cap', eL, _, c1, c2⟩ := HRep.place h.rep hp.lt hp.inside
  rw [hL] at eL
  cases eL
  have hown : (L.v i).ownBlock = some pb := by rw [hL]; rfl
  have hpB := (h.foot hE pb (ownBlock_foot hp.lt hown))
  obtain ⟨x, hx⟩ : ∃ x, x = (s.sl i).getD q 0 := ⟨_, rfl⟩
  rw [← hx] at c1
  by_cases hx0 : x = 0
  · have hn0 : n = 0 := ref_zero hp.ref (fun m e => h.inv.rep.pos (hp.reach m e)) (by rw [← hx]; exact hx0)
    have hw := hp.skip (by rw [← hx]; exact hx0)
    rw [hx0] at c1
    refine Go.wpIn_mono (round_zero (B := E.B) c1) ?_
    rintro e a w' he
    cases e <;> first | exact he.elim | skip
    have : w' = w := he
    subst this
    rw [hn0]
    exact ⟨L, s, G, φ, lv, ⟨h.rep, hw, h.base, h.fr, h.aux⟩, fun _ _ => rfl⟩
  · obtain ⟨m, rfl⟩ : ∃ m, n = m + 1 := by
      cases n with
      | zero =>
        rcases hp.ref with e | ⟨m, _, e, _⟩
        · rw [← hx] at e; exact absurd e hx0
        · cases e
      | succ m => exact ⟨m, rfl⟩
    have hre := hp.reach m rfl
    obtain ⟨hnew, hgood⟩ := h.inv.rep.newest_ok hp.ref hp.reach
    rw [← hx] at hnew hgood
    have hsm := h.small hE
    have hfit : x ≤ 4611686018427387904 := by
      rcases hgood with e | ⟨g1, g2, g3, _⟩
      · exact absurd e hx0
      · exact ref_small hsm g1 g2 g3
    have HN := newest_any (w := w.drew) h.drew.rep hgood hfit hsm
    rw [hnew] at HN
    obtain ⟨n', HM⟩ := hM lr D out w.drew L s G φ lv m h.drew hre
    have hb0 := (cell_of_box h.aux.b0).1
    have hb1 := (cell_of_box h.aux.b1).1
    refine round_core (B := E.B) (hb := E.hb) (g := E.g) (lb := E.lb) (x := x) (n := φ m) (n' := n') (lv := lv) (xs := out.map φ) hg hb0 hb1 c1 hx0 HN HM ?_ ?_ ?_ ?_
    · rintro w1 ⟨L1, s1, G1, φ1, rfl, h1, hoff, hkeep, hsame⟩
      obtain ⟨q1, q2⟩ := hsame i hp.lt hp.off q hp.inside
      obtain ⟨pb1, off1, cap1, eL1, _, d1, d2⟩ := HRep.place h1.rep hp.lt q1
      have hbase : pb1 = pb ∧ off1 = off := by
        obtain ⟨a, n1, n2, c, e1, e2⟩ := h.base i hp.lt
        obtain ⟨a', n1', n2', c', e1', e2'⟩ := h1.base i hp.lt
        rw [hL] at e2; rw [eL1] at e2'
        rw [e1] at e1'
        cases e1'; cases e2; cases e2'
        exact ⟨rfl, rfl⟩
      obtain ⟨rfl, rfl⟩ := hbase
      rw [q2, ← hx] at d1
      have hm1 : out.map φ1 = out.map φ := List.map_congr_left hkeep
      have ha1 := h1.aux
      rw [hm1] at ha1
      have own := ha1.own
      refine ⟨(cell_of_box ha1.b0).1, (cell_of_box ha1.b1).1, d1, d2, (cell_of_box ha1.b2).1, (cell_of_box ha1.b2).2, (cell_of_box ha1.b4).1, ha1.l, ha1.b3, by have := ha1.lt; omega, ?_, ?_, by omega, by omega, by omega, ?_⟩
      · intro e; have := own _ e; omega
      · intro e; have := own _ e; omega
      · intro e; have := own _ e; omega
    · simpa using hlen
    · rintro hin w1 ⟨L1, s1, G1, φ1, rfl, h1, hoff, hkeep, hsame⟩
      obtain ⟨q1, L1e⟩ := base_place h h1 hp hL hsame
      obtain ⟨n1, hL1⟩ := L1e
      have hm1 : out.map φ1 = out.map φ := List.map_congr_left hkeep
      rw [← hm1] at hin
      obtain ⟨k, hk, ek⟩ := List.mem_map.1 hin
      have hmo : m ∈ out := by rw [← h1.inv.rep.inj k m (h1.inv.reach k hk) hre ek]; exact hk
      have hadd : addv out (m + 1) = out := by unfold addv; rw [if_neg (by omega), if_pos (by simpa using hmo)]
      obtain ⟨G2, hw⟩ := hp.write s1 G1 φ1 out h1.inv hkeep (fun j e => by have e2 : j = m := (by omega); rw [e2]; exact hmo)
      rw [hadd]
      have h2 : WSt E lr (fun r => D r ∨ r = p) out (w1.setCell ⟨pb, off + q, none⟩ (.int .i64 (φ1 m))) L1 _ G2 φ1 lv :=
        ⟨HRep.put h1.rep hp.lt hL1 q1 (φ1 m), hw, h1.base, h1.fr.trans (fr_setCell _ _ _ _) (fun j e => .inl (by rw [e]; exact hpB.1)), h1.aux.of_fr (fr_setCell _ _ _ _) (fun j e => by omega)⟩
      exact ⟨_, _, _, _, _, h2.drew, hkeep⟩
    · rintro hnin w1 o W v' ⟨L1, s1, G1, φ1, rfl, h1, hoff, hkeep, hsame⟩ hmap ha
      obtain ⟨q1, L1e⟩ := base_place h h1 hp hL hsame
      obtain ⟨n1, hL1⟩ := L1e
      have hm1 : out.map φ1 = out.map φ := List.map_congr_left hkeep
      have hmo : m ∉ out := fun hmo => hnin (by rw [← hm1]; exact List.mem_map_of_mem hmo)
      have hadd : addv out (m + 1) = out ++ [m] := by unfold addv; rw [if_neg (by omega), if_neg (by simpa using hmo)]; rfl
      obtain ⟨G2, hw⟩ := hp.write s1 G1 φ1 (addv out (m + 1)) (h1.inv.found hre hoff) hkeep (fun j e => by have e2 : j = m := (by omega); rw [e2]; exact addv_new _ _)
      have a2 := h1.aux.of_fr (fr_setCell w1 pb (off + q) (.int .i64 (φ1 m))) (fun j e => by omega)
      have r2 := HRep.put h1.rep hp.lt hL1 q1 (φ1 m)
      have f2 : Fr (E.L0.foot E.hb) E.w0 (w1.setCell ⟨pb, off + q, none⟩ (.int .i64 (φ1 m))) := h1.fr.trans (fr_setCell _ _ _ _) (fun j e => .inl (by rw [e]; exact hpB.1))
      obtain ⟨w2, hw2⟩ : ∃ w2, w2 = w1.setCell ⟨pb, off + q, none⟩ (.int .i64 (φ1 m)) := ⟨_, rfl⟩
      rw [← hw2] at a2 r2 f2 ha
      have hlt := a2.lt
      have hown2 := a2.own
      have fA : Fr (fun k => k = E.B + 3) w2 ((w2.drew.drew.putObj (E.B + 3) o).drew.alloc (.cells #[.int .i64 (φ1 m)] 3)) := by
        refine ⟨rfl, rfl, rfl, by simp, fun k hk hn => ?_⟩
        rw [Below.heap_alloc _ _ k (by simpa using hk)]
        exact World.putObj_heap_other hn
      have fB := (fA.mono (B' := fun k => k = E.B + 3 ∨ lv.ownBlock = some k ∨ k = E.B + 2) (fun k hk => .inl hk)).trans (ha.fr.mono (B' := fun k => k = E.B + 3 ∨ lv.ownBlock = some k ∨ k = E.B + 2) (fun k hk => .inr (.inl hk))) (fun j hj => .inl hj)
      have fC := fB.trans ((fr_setCell W (E.B + 2) 0 v').mono (B' := fun k => k = E.B + 3 ∨ lv.ownBlock = some k ∨ k = E.B + 2) (fun k hk => .inr (.inr hk))) (fun j hj => .inl hj)
      have hge : ∀ k, (k = E.B + 3 ∨ lv.ownBlock = some k ∨ k = E.B + 2) → E.B + 2 ≤ k := by
        rintro k (rfl | e | rfl)
        · omega
        · have := hown2 k e; omega
        · omega
      have hoB : ∀ k, v'.ownBlock = some k → E.B + 9 ≤ k := by
        intro k hk
        rcases ha.blk with e | ⟨b, e, hle⟩
        · exact hown2 k (by rw [← e]; exact hk)
        · rw [e] at hk; cases hk; simp at hle; omega
      have keep : ∀ k, E.B ≤ k → k ≠ E.B + 2 → k ≠ E.B + 3 → k < E.B + 9 → (W.setCell ⟨E.B + 2, 0, none⟩ v').heap[k]? = w2.heap[k]? := by
        intro k h1 h2 h3 h4
        refine fC.block k (by omega) ?_
        rintro (e | e | e)
        · exact h3 e
        · have := hown2 k e; omega
        · exact h2 e
      have hW : ∀ k, E.B ≤ k → k < E.B + 9 → W.heap[k]? = ((w2.drew.drew.putObj (E.B + 3) o).drew.alloc (.cells #[.int .i64 (φ1 m)] 3)).heap[k]? := fun k h1 h2 =>
        ha.fr.block k (by simp; omega) (fun e => by have := hown2 k e; omega)
      have hW3 : (W.setCell ⟨E.B + 2, 0, none⟩ v').heap[E.B + 3]? = some o := by
        rw [setCell_other _ _ _ _ (by omega), hW _ (by omega) (by omega), Below.heap_alloc _ _ _ (by simp; omega)]
        exact World.putObj_heap_same (by simpa using by omega)
      have hW2 : W.heap[E.B + 2]? = some (.cells #[lv] 35 (0, 0)) := by
        rw [hW _ (by omega) (by omega), Below.heap_alloc _ _ _ (by simp; omega)]
        exact (World.putObj_heap_other (by omega)).trans a2.b2
      rw [hadd]
      rw [hadd] at hw
      refine ⟨L1, _, G2, φ1, v', ⟨r2.of_fr fC (fun k hk hB => ?_), hw, h1.base, f2.trans fC (fun j hj => .inr (by rw [hE.size]; have := hge j hj; omega)), ?_⟩, hkeep⟩
      · have := (h1.foot hE k hk).2
        have := hge k hB
        omega
      · exact {
          b0 := (keep _ (by omega) (by omega) (by omega) (by omega)).trans a2.b0
          b1 := (keep _ (by omega) (by omega) (by omega) (by omega)).trans a2.b1
          b2 := by rw [setCell_block _ _ _ _ hW2]; rfl
          b3 := by rw [List.map_append, hm1]; exact hmap _ hW3
          b4 := (keep _ (by omega) (by omega) (by omega) (by omega)).trans a2.b4
          b5 := (keep _ (by omega) (by omega) (by omega) (by omega)).trans a2.b5
          b6 := (keep _ (by omega) (by omega) (by omega) (by omega)).trans a2.b6
          b7 := (keep _ (by omega) (by omega) (by omega) (by omega)).trans a2.b7
          b8 := (keep _ (by omega) (by omega) (by omega) (by omega)).trans a2.b8
          l := by
            rw [List.map_append, hm1]
            exact ha.new.of_block fun k hk => setCell_other _ _ _ _ (by have := hoB k hk; omega)
          own := hoB }
end
end Go.Proofs.Ythjokcjdphempaa
