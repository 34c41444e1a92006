/- The iterator over the references of a heap, with the rounds of the walk. -/
import Derived.Test.YthjokcjdphempaaYield
namespace Go.Proofs.Ythjokcjdphempaa
open Go.RowKit Hp

def D1 (i : Nat) : Ptr → Prop
  | .slot j => j < i
  | .field _ _ => False
def D2 (A : AHeap) (j : Nat) : Ptr → Prop
  | .slot i => i < A.slots.length
  | .field m k => m ∈ (outAt A j).take j ∧ k < (A.obj m).refs.length
def D3 (A : AHeap) (j m k : Nat) : Ptr → Prop
  | .slot i => i < A.slots.length
  | .field m' k' => (m' ∈ (outAt A j).take j ∧ k' < (A.obj m').refs.length) ∨ (m' = m ∧ k' < k)
def DF (A : AHeap) : Ptr → Prop
  | .slot i => i < A.slots.length
  | .field m k => m ∈ A.search ∧ k < (A.obj m).refs.length

theorem through_DF (A : AHeap) : Through A (DF A) A.search := ⟨rfl, fun _ h => h, fun _ hm _ hk => ⟨hm, hk⟩⟩

section
variable {E : WEnv} {lr : Loop} {D : Ptr → Prop} {out : List Nat} {w : World} {L : Lay} {s : HS} {G : Areas} {φ : Nat → Int} {lv : Value}

theorem WSt.slots (h : WSt E lr D out w L s G φ lv) (hr0 : HRep E.w0 E.hb E.L0 E.s0) : L.v 3 = E.L0.v 3 := by
  obtain ⟨a, n, n', c, e1, e2⟩ := h.base 3 (by omega)
  obtain ⟨a1, c1, f1⟩ := hr0.slots.shape
  obtain ⟨a2, c2, f2⟩ := h.rep.slots.shape
  have := h.inv.slen
  rw [e1] at f1
  rw [e2] at f2
  cases f1
  cases f2
  rw [e2, e1, this]

theorem WSt.length_le (h : WSt E lr D out w L s G φ lv) (hE : E.Ok) (hn : out.Nodup) : out.length ≤ E.A.objs.length ∧ out.length ≤ 900000000000 := by
  have := nodup_length_le _ _ hn fun m hm => (h.inv.reach m hm).lt h.inv.rep.wf
  have := hE.count
  omega

/-- The object at a number of the list stands where it is said. -/
theorem WSt.at (h : WSt E lr D out w L s G φ lv) (hE : E.Ok) {m : Nat} (hm : Hp.Reach E.A m) : AtObj s (φ m) ∧ headAt s (φ m) = hdr (E.A.obj m).tag (E.A.obj m).refs.length (E.A.obj m).raws.length ∧
    sizeN (headAt s (φ m)) = 1 + (E.A.obj m).refs.length + (E.A.obj m).raws.length ∧ refsN (headAt s (φ m)) = (E.A.obj m).refs.length ∧ newest s (φ m) = φ m ∧ GoodRef s (φ m) := by
  obtain ⟨a1, a2, a3⟩ := h.inv.rep.atPhi hm
  obtain ⟨f1, f2, f3⟩ := h.inv.rep.fits m hm
  have hp := h.inv.rep.pos hm
  have hh : headAt s (φ m) = hdr (E.A.obj m).tag (E.A.obj m).refs.length (E.A.obj m).raws.length := a1
  have hsz : sizeN (headAt s (φ m)) = 1 + (E.A.obj m).refs.length + (E.A.obj m).raws.length := by
    rw [hh]; unfold sizeN; rw [refsN_hdr f1 (by omega), rawsN_hdr f1 (by omega)]
  have hnn := hdr_nonneg (E.A.obj m).tag (E.A.obj m).refs.length (E.A.obj m).raws.length
  obtain ⟨g1, g2⟩ := h.inv.rep.newest_ok (x := φ m) (n := m + 1) (.inl rfl) (fun j e => by have e2 : j = m := (by omega); rw [e2]; exact hm)
  have hlen : pOf (φ m) < (s.ar (aOf (φ m))).length := by unfold AObj.size at a3; omega
  refine ⟨⟨hp, ref_small (h.small hE) hp a2 hlen, a2, by rw [hh]; exact hnn, ?_, ?_⟩, hh, hsz, ?_, g1, g2⟩
  · rw [hsz]; unfold AObj.size at a3; omega
  · rw [hh]; unfold hdr; omega
  · rw [hh, refsN_hdr f1 (by omega)]
end

set_option maxHeartbeats 1000000 in
theorem iter_any {E : WEnv} {fn : FuncId} (hE : E.Ok) (hM : MoveOk E) (hg : ∀ args w, (callFunc E.g args).run Try.prog w = .ok (.enter E.g args) w) (hr0 : HRep E.w0 E.hb E.L0 E.s0) {W : World} {L : Lay} {s : HS} {G : Areas} {φ : Nat → Int} {lv : Value}
    (h : WSt E (walkLoop E fn .ready) (fun _ => False) [] W L s G φ lv) :
    Calls Try.prog 86 #[.func (.yield (E.B + 8)) #[] #[], .pointer (some ⟨E.B + 5, 0, none⟩), .pointer (some ⟨E.B + 6, 0, none⟩)] W fun e w' => e = .returned (.tuple #[]) ∧
      ∃ L s G φ lv, WSt E (walkLoop E fn .ready) (DF E.A) E.A.search w' L s G φ lv := by
  have hsl : E.s0.slots.length = E.A.slots.length := by rw [← h.inv.slen, h.inv.rep.slen]
  obtain ⟨sa, scap, e0⟩ := hr0.slots.shape
  have hcap : E.A.slots.length ≤ scap := by
    rcases hr0.slots with ⟨e1, e2⟩ | ⟨b, off, cap, cs, e1, _, _, e2, _⟩
    · rw [← hsl, e2]; exact Nat.zero_le _
    · rw [e1] at e0; cases e0; rw [← hsl]; exact e2
  obtain ⟨sb, so, hsv⟩ : ∃ sb so, E.L0.v 3 = .slice (some ⟨sb, so, none⟩) E.A.slots.length scap ∨ (E.A.slots.length = 0 ∧ ∃ a, E.L0.v 3 = .slice a 0 scap) := by
    rcases hr0.slots with ⟨e1, e2⟩ | ⟨b, off, cap, cs, e1, _, _, e2, _⟩
    · refine ⟨0, 0, .inr ⟨by rw [← hsl, e2]; rfl, sa, ?_⟩⟩
      rw [e0, e2]; rfl
    · refine ⟨b, off, .inl ?_⟩
      rw [e1] at e0 ⊢; cases e0; rw [hsl]
  have hNS := hE.nslots
  have hC := hE.count
  have hwf := h.inv.rep.wf
  refine pointers1_any (B2 := E.B + 2) (hb := E.hb) (ns := E.A.slots.length) (N := E.A.objs.length) (scap := scap) (sb := sb) (so := so) (sv := E.L0.v 3)
    (J1 := fun i W => ∃ L s G φ lv, WSt E (walkLoop E fn .ready) (D1 i) (adds [] (E.A.slots.take i)) W L s G φ lv)
    (J2 := fun j W => j ≤ (outAt E.A j).length ∧ ∃ L s G φ lv, WSt E (walkLoop E fn .ready) (D2 E.A j) (outAt E.A j) W L s G φ lv)
    (J3 := fun j b off z R k W => ∃ m L s G φ lv, (outAt E.A j)[j]? = some m ∧ R = (E.A.obj m).refs.length ∧ WSt E (walkLoop E fn .ready) (D3 E.A j m k) (adds (outAt E.A j) ((E.A.obj m).refs.take k)) W L s G φ lv ∧
      ∃ o' ln cap, L.v (aOf (φ m)) = .slice (some ⟨b, o', none⟩) ln cap ∧ off = o' + pOf (φ m))
    hsv hNS hcap (by omega) ?_ ?_ ?_ ?_ ?_ ?_ ?_
  · rintro i W' hi ⟨L, s, G, φ, lv, h⟩
    exact ⟨(cell_of_box h.aux.b5).1, by rw [← h.slots hr0]; exact h.rep.cell rfl⟩
  · rintro i W' hi ⟨L, s, G, φ, lv, h⟩
    have hn : E.A.slots[i]? = some (E.A.slots[i]) := List.getElem?_eq_getElem hi
    have hL : L.v 3 = .slice (some ⟨sb, so, none⟩) E.A.slots.length scap := by
      rw [h.slots hr0]
      rcases hsv with e | ⟨e, _⟩
      · exact e
      · omega
    have hlen := (h.length_le hE (adds_nodup _ (by simp))).2
    refine yields_round h hE hM hg hlen (place_slot h hE.area hn) hL ?_
    rintro W2 ⟨L', s', G', φ', lv', h', _⟩
    refine ⟨L', s', G', φ', lv', ?_⟩
    have et : E.A.slots.take (i + 1) = E.A.slots.take i ++ [E.A.slots[i]] := by rw [List.take_add_one, hn]; rfl
    rw [et, adds_snoc]
    refine h'.mono fun p hp => ?_
    cases p with
    | slot j =>
      have : j < i + 1 := hp
      by_cases e : j = i
      · right; rw [e]
      · left; show j < i; omega
    | field m k => exact hp.elim
  · rintro W' ⟨L, s, G, φ, lv, h⟩
    refine ⟨Nat.zero_le _, L, s, G, φ, lv, ?_⟩
    rw [List.take_length] at h
    refine h.mono fun p hp => ?_
    cases p with
    | slot j => exact hp
    | field m k => have := hp.1; simp at this
  · rintro j W' ⟨hj, L, s, G, φ, lv, h⟩
    have hlen := h.length_le hE (outAt_nodup _ _)
    obtain ⟨la, lcap, el0⟩ := h.aux.l.shape
    have el := el0
    rw [List.length_map] at el
    have hlc : (outAt E.A j).length ≤ lcap := by
      rcases h.aux.l with ⟨e1, e2⟩ | ⟨b, off, cap, cs, e1, _, _, e2, _⟩
      · have : outAt E.A j = [] := by simpa using e2
        rw [this]; exact Nat.zero_le _
      · rw [e1] at el0; cases el0; simpa using e2
    refine ⟨la, (outAt E.A j).length, lcap, (cell_of_box h.aux.b6).1, by rw [← el]; exact (cell_of_box h.aux.b2).1, hj, hlen.1, hlc, ?_, ?_⟩
    · intro hjl
      refine ⟨L, s, G, φ, lv, ?_⟩
      have es : outAt E.A j = E.A.search := search_of_end hwf (by omega)
      rw [es] at h
      refine h.mono fun p hp => ?_
      cases p with
      | slot i => exact hp
      | field m k =>
        refine ⟨?_, hp.2⟩
        rw [show (outAt E.A j).take j = outAt E.A j from List.take_of_length_le (by omega), es]
        exact hp.1
    · intro hjl
      obtain ⟨m, hm⟩ : ∃ m, (outAt E.A j)[j]? = some m := ⟨_, List.getElem?_eq_getElem hjl⟩
      have hre := h.inv.reach m (List.mem_of_getElem? hm)
      obtain ⟨at1, at2, at3, at4, at5, at6⟩ := h.at hE hre
      have hq : pOf (φ m) < (s.sl (aOf (φ m))).length := by rw [sl_ar _ at1.area]; have := at1.size; omega
      obtain ⟨b, o', cap, eL, hc1, hc2, _⟩ := HRep.place h.rep (show aOf (φ m) < 5 by have := at1.area; omega) hq
      obtain ⟨lb, lo, cap', e1, _, l2, _⟩ := h.aux.l.get (i := j) (by simpa using hjl)
      have l3 := l2 j (by simpa using hjl)
      have l4 : (List.map φ (outAt E.A j)).getD j 0 = φ m := by
        rw [List.getD_eq_getElem?_getD, List.getElem?_map, hm]; rfl
      rw [l4] at l3
      have hxx : (s.sl (aOf (φ m))).getD (pOf (φ m)) 0 = headAt s (φ m) := by rw [sl_ar _ at1.area]; rfl
      rw [hxx] at hc2
      have hfit := h.inv.rep.fits m hre
      refine ⟨lb, lo, φ m, b, o' + pOf (φ m), sizeN (headAt s (φ m)), headAt s (φ m), ?_, l3, (cell_of_box h.aux.b5).1, ?_, ?_, ?_, hc2, at1.head, at1.top, ?_, ?_⟩
      · rw [e1] at el0; cases el0; rfl
      · intro W2 hW2
        have := words_any (w := W2) (h.rep.of_heap hW2) at6 at1.fit (h.small hE) at5 at1
        rw [eL] at this
        exact this
      · rw [at3]; omega
      · rw [at3]; omega
      · rw [at4, at3]; omega
      · intro n
        refine ⟨m, L, s, G, φ, lv, hm, at4, ?_, o', _, cap, eL, rfl⟩
        refine (h.drewN n).mono fun p hp => ?_
        cases p with
        | slot i => exact hp
        | field m' k' =>
          rcases hp with hp | hp
          · exact hp
          · omega
  · rintro j b off z R k W' hk hz ⟨m, L, s, G, φ, lv, hm, rfl, h, o', ln, cap, hL, rfl⟩
    have hn : (E.A.obj m).refs[k]? = some ((E.A.obj m).refs[k]) := List.getElem?_eq_getElem hk
    have hmo : m ∈ adds (outAt E.A j) ((E.A.obj m).refs.take k) := adds_sub _ _ _ (List.mem_of_getElem? hm)
    have hlen := (h.length_le hE (adds_nodup _ (outAt_nodup _ _))).2
    have hy := yields_round h hE hM hg hlen (place_field h hmo hn) hL (R := fun W => ∃ m' L s G φ' lv, (outAt E.A j)[j]? = some m' ∧ (E.A.obj m).refs.length = (E.A.obj m').refs.length ∧ WSt E (walkLoop E fn .ready) (D3 E.A j m' (k + 1)) (adds (outAt E.A j) ((E.A.obj m').refs.take (k + 1))) W L s G φ' lv ∧
      ∃ o1 ln cap, L.v (aOf (φ' m')) = .slice (some ⟨b, o1, none⟩) ln cap ∧ o' + pOf (φ m) = o1 + pOf (φ' m')) ?_
    · rw [show o' + (pOf (φ m) + (k + 1)) = o' + pOf (φ m) + (1 + k) by omega] at hy
      exact hy
    · rintro W2 ⟨L', s', G', φ', lv', h', hkeep⟩
      have hφ := hkeep m hmo
      refine ⟨m, L', s', G', φ', lv', hm, rfl, ?_, ?_⟩
      · have et : (E.A.obj m).refs.take (k + 1) = (E.A.obj m).refs.take k ++ [(E.A.obj m).refs[k]] := by rw [List.take_add_one, hn]; rfl
        rw [et, adds_snoc]
        refine h'.mono fun p hp => ?_
        cases p with
        | slot i => exact .inl hp
        | field m' k' =>
          rcases hp with hp | ⟨rfl, hp⟩
          · exact .inl (.inl hp)
          · by_cases e : k' = k
            · right; rw [e]
            · exact .inl (.inr ⟨rfl, by omega⟩)
      · rw [hφ]
        have hre := h.inv.reach m hmo
        have ha := (h.at hE hre).1.area
        obtain ⟨a, n1, n2, c, e1, e2⟩ := h.base (aOf (φ m)) (by omega)
        obtain ⟨a', n1', n2', c', e1', e2'⟩ := h'.base (aOf (φ m)) (by omega)
        rw [hL] at e2
        rw [e1] at e1'
        cases e1'; cases e2
        exact ⟨o', _, _, e2', rfl⟩
  · rintro j b off z R W' ⟨m, L, s, G, φ, lv, hm, rfl, h, o', ln, cap, hL, rfl⟩
    rw [List.take_length, ← outAt_some hm] at h
    have hjl := (List.getElem?_eq_some_iff.1 hm).1
    obtain ⟨t, ht⟩ := outAt_prefix E.A j
    refine ⟨by rw [ht]; simp; omega, L, s, G, φ, lv, h.mono fun p hp => ?_⟩
    cases p with
    | slot i => exact hp
    | field m' k' =>
      obtain ⟨h1, h2⟩ := hp
      have et : (outAt E.A (j + 1)).take (j + 1) = (outAt E.A j).take j ++ [m] := by
        rw [ht, List.take_append_of_le_length (by omega), List.take_add_one, hm]; rfl
      rw [et] at h1
      rcases List.mem_append.1 h1 with h1 | h1
      · exact .inl ⟨h1, h2⟩
      · have : m' = m := by simpa using h1
        subst this
        exact .inr ⟨rfl, h2⟩
  · refine ⟨L, s, G, φ, lv, h.mono fun p hp => ?_⟩
    cases p with
    | slot i => have : i < 0 := hp; omega
    | field m k => exact hp
end Go.Proofs.Ythjokcjdphempaa
