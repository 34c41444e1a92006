/- append(v, make([]int, k)...), and slices.Grow. -/
import Derived.Test.YthjokcjdphempaaLive
import Derived.Lib.AppendZerosOnto
namespace Go.Proofs.Ythjokcjdphempaa
open Go.RowKit Hp Go.Shelf

theorem ints_zeros (k : Nat) : ints (List.replicate k 0) = List.replicate k (.int .i64 0) := by simp [ints]

theorem firstCells_old {w : World} {v : Value} {xs : List Int} (h : IsSl w v xs) {a : Option Addr} {cap : Nat} (hv : v = .slice a xs.length cap) : (Builtin.firstCells 1 xs.length (.slice a xs.length cap)).run Try.prog w.drew = .ok (ints xs).toArray w.drew := by
  rcases h with ⟨e, rfl⟩ | ⟨b, off, cap', cs, e, h1, h2, h3, h5, h4⟩
  · rw [hv] at e; cases e
    simp [Builtin.firstCells, ints]
  · rw [hv] at e; cases e
    refine run_firstCells_some (P := Try.prog) w.drew 1 xs.length ⟨b, off, none⟩ xs.length cap (ints xs) (by simp [ints]) ?_
    intro j u hu
    have hadd : (⟨b, off, none⟩ : Addr).add j = ⟨b, off + j, none⟩ := by unfold Addr.add; split <;> simp_all
    rw [hadd]
    unfold ints at hu
    rw [List.getElem?_map] at hu
    cases hx : xs[j]? with
    | none => rw [hx] at hu; cases hu
    | some x =>
      rw [hx] at hu
      cases hu
      show w.cell? _ = _
      apply ints_cell h1
      rw [← h4, List.getElem?_take] at hx
      split at hx
      · rw [List.getElem?_drop] at hx; exact hx
      · cases hx

/-- **append(v, make([]int, k)...)**. -/
theorem run_zapp {w : World} {v : Value} {xs : List Int} (h : IsSl w v xs) (k : Nat) (ty : TypeId) (hl : xs.length + k ≤ 1000000000000) :
    ∃ v' w', (Builtin.append_ #[35, 3] ty #[v, .int .i64 k]).run Try.prog w = .ok v' w' ∧ Appended w w' v v' xs (List.replicate k 0) := by
  obtain ⟨i0, hi, hz0, hz1, hz2⟩ := info_parts info3
  have hw : IntKind.i64.wrap (k : Int) = k := by rw [IntKind.wrap_i64]; omega
  have hneg : ¬ ((k : Int) < 0) := by omega
  have h48i : ¬ (281474976710656 < (k : Int) * (8 : Int)) := by omega
  by_cases hk : k = 0
  · subst hk
    obtain ⟨a, cap, e⟩ := h.shape
    subst e
    have hcap : xs.length ≤ cap := by
      rcases h with ⟨e, rfl⟩ | ⟨b, off, cap', cs, e, h1, h2, h3, h5, h4⟩
      · simp
      · cases e; exact h3
    refine ⟨.slice a xs.length cap, w, ?_, ?_⟩
    · have hst : ∀ (b : Addr) W, (storeCells b []).run Try.prog W = .ok () W := fun b W => by simp [storeCells]
      cases a <;> simp [Builtin.append_, run_underlying Try.underlying35, run_underlying Try.underlying3, sizeOf, typeInfo, hi, hz2, asInt, asIntOf, hcap, hst, IntKind.wrap_i64]
    · refine ⟨by simpa using h, h, Fr.refl _ _, .inl rfl, fun a' n cap' e _ => by cases e; exact ⟨rfl, rfl⟩⟩
  · rcases h with ⟨rfl, rfl⟩ | ⟨b, off, cap, cs, rfl, h1, h2, h3, h5, h4⟩
    · have hr := Lib.run_append_nil_zeros (P := Try.prog) w 35 3 ty 3 i0 (.int .i64 0) .i64 .i64 Try.underlying35 Try.underlying3 hi hz0 k (by omega) (by omega) (by omega) (by rw [hz2]; omega)
      refine ⟨_, _, hr, ?_⟩
      have := app_new (w := w) (v := .slice none 0 0) (xs := []) (ys := List.replicate k 0) (n := grownCap w k 0 3) (.inl ⟨rfl, rfl⟩) (by simpa using grownCap_ge w k 0 3) (grownCap_le_maxLen _ _ _ _ (by unfold maxLen; omega)) (fun a m cap e => by cases e; simp; omega)
      rw [zeroCells_ints]
      simpa [ints] using this
    · by_cases hroom : xs.length + k ≤ cap
      · have hst := run_storeCells_at Try.prog b (off + xs.length) 3 (ints (List.replicate k 0)) 0 (ints cs).toArray w h1 (by simp [ints]; omega) (ints_one _)
        have hap := app_room (w := w) (ys := List.replicate k 0) h1 h2 h3 h5 h4 (by simpa using hroom)
        refine ⟨_, _, ?_, hap⟩
        have hadd : (⟨b, off, none⟩ : Addr).add xs.length = ⟨b, off + xs.length, none⟩ := by unfold Addr.add; split <;> simp_all
        have hzc : (Builtin.zeroCells (Value.int .i64 0).cells k).toList = ints (List.replicate k 0) := by rw [zeroCells_ints]
        simp [Builtin.append_, run_underlying Try.underlying35, run_underlying Try.underlying3, sizeOf, typeInfo, zeroValue, hi, hz0, hz1, hz2, asInt, asIntOf, hw, hneg, h48i, hk, hroom, hadd, hst, hzc]
      · have hold := firstCells_old (w := w) (v := .slice (some ⟨b, off, none⟩) xs.length cap) (.inr ⟨b, off, cap, cs, rfl, h1, h2, h3, h5, h4⟩) rfl
        rw [← hz1] at hold
        have hr := Lib.run_append_grow_zeros (P := Try.prog) w 35 3 ty 3 i0 (.int .i64 0) .i64 .i64 Try.underlying35 Try.underlying3 hi hz0 (some ⟨b, off, none⟩) xs.length cap (ints xs) hold k (by omega) (by omega) (by omega) (by omega) (by rw [hz2]; omega)
          (growslice_fits (by omega) (by rw [hz2]; omega))
        refine ⟨_, _, hr, ?_⟩
        have := app_new (w := w) (v := .slice (some ⟨b, off, none⟩) xs.length cap) (xs := xs) (ys := List.replicate k 0) (n := grownCap w (xs.length + k) cap 3) (.inr ⟨b, off, cap, cs, rfl, h1, h2, h3, h5, h4⟩) (by simpa using grownCap_ge w (xs.length + k) cap 3) (grownCap_le_maxLen _ _ _ _ (by unfold maxLen; omega)) (fun a m cap' e => by cases e; simpa using hroom)
        rw [zeroCells_ints]
        simpa using this

theorem IsSl.caps {w : World} {v : Value} {xs : List Int} (h : IsSl w v xs) {a : Option Addr} {n cap : Nat} (hv : v = .slice a n cap) : n = xs.length ∧ xs.length ≤ cap ∧ cap ≤ maxLen := by
  rcases h with ⟨e, rfl⟩ | ⟨b, off, cap', cs, e, h1, h2, h3, h5, h4⟩
  · rw [hv] at e; injection e with e1 e2 e3; subst e2; subst e3
    exact ⟨rfl, Nat.le_refl _, by unfold maxLen; omega⟩
  · rw [hv] at e; injection e with e1 e2 e3; subst e2; subst e3
    exact ⟨rfl, h3, by omega⟩

/-- What slices.Grow hands back. -/
structure Grown (w w' : World) (v v' : Value) (xs : List Int) (k : Nat) : Prop where
  new : IsSl w' v' xs
  fr : Fr (fun b => v.ownBlock = some b) w w'
  own : v'.ownBlock = v.ownBlock ∨ ∃ b, v'.ownBlock = some b ∧ w.heap.size ≤ b
  room : ∃ a cap, v' = .slice a xs.length cap ∧ xs.length + k ≤ cap

theorem full_sl {w : World} {v : Value} {xs : List Int} (h : IsSl w v xs) {a : Option Addr} {cap : Nat} (hv : v = .slice a xs.length cap) : ∃ ys, IsSl w (.slice a cap cap) ys ∧ ys.length = cap ∧ ys.take xs.length = xs := by
  rcases h with ⟨e, rfl⟩ | ⟨b, off, cap', cs, e, h1, h2, h3, h5, h4⟩
  · rw [hv] at e; cases e
    exact ⟨[], .inl ⟨rfl, rfl⟩, rfl, rfl⟩
  · rw [hv] at e; cases e
    have hlen : ((cs.drop off).take cap).length = cap := by simp; omega
    refine ⟨(cs.drop off).take cap, .inr ⟨b, off, cap, cs, by rw [hlen], h1, h2, by omega, h5, by rw [hlen]⟩, hlen, ?_⟩
    rw [List.take_take, Nat.min_eq_left h3]; exact h4

theorem IsSl.take {w : World} {a : Option Addr} {ys : List Int} {cap : Nat} (h : IsSl w (.slice a ys.length cap) ys) {n : Nat} (hn : n ≤ ys.length) : IsSl w (.slice a n cap) (ys.take n) := by
  have hl : (ys.take n).length = n := by simp; omega
  rcases h with ⟨e, rfl⟩ | ⟨b, off, cap', cs, e, h1, h2, h3, h5, h4⟩
  · cases e
    have : n = 0 := by simpa using hn
    subst this
    exact .inl ⟨rfl, rfl⟩
  · cases e
    refine .inr ⟨b, off, cap, cs, by rw [hl], h1, h2, by omega, h5, ?_⟩
    rw [hl, ← h4, List.take_take]
    congr 1
    omega

set_option maxRecDepth 100000 in
set_option maxHeartbeats 1000000 in
theorem grow_any {w : World} {v : Value} {xs : List Int} (h : IsSl w v xs) (k : Nat) (hl : xs.length + k ≤ 900000000000) :
    Calls Try.prog 87 #[v, .int .i64 k] w fun e w' => ∃ v', e = .returned v' ∧ Grown w w' v v' xs k := by
  obtain ⟨a, cap, e⟩ := h.shape
  have hcap : xs.length ≤ cap := by
    rcases h with ⟨e1, rfl⟩ | ⟨b, off, cap', cs, e1, h1, h2, h3, h5, h4⟩
    · simp
    · rw [e] at e1; cases e1; exact h3
  have hc2 := (h.caps e).2.2
  unfold maxLen at hc2
  obtain ⟨ys, y1, y2, y3⟩ := full_sl h e
  subst e
  obtain ⟨ln, hln⟩ : ∃ ln, ln = xs.length := ⟨_, rfl⟩
  by_cases hroom : ln + k ≤ cap
  · have Hx := Lib.hid h
    have Hl := Lib.hid hln
    rw [← hln] at hcap hl ⊢
    clear y1 y2 y3 h hln
    go_enter Try.func87, Try.ntmps87
    go_wp2
    go_ret
    refine ⟨_, rfl, ?_⟩
    have := Hx.out
    have e := Hl.out
    refine ⟨?_, Fr.refl _ _, .inl rfl, a, cap, ?_, ?_⟩
    · show IsSl w (.slice a ln cap) xs
      rw [e]; exact this
    · show Value.slice a ln cap = _
      rw [e]
    · rw [← e]; exact hroom
  · obtain ⟨k', hk'⟩ : ∃ k' : Nat, k' = ln + k - cap := ⟨_, rfl⟩
    have hki : ((k : Int) - ((cap : Int) - (ln : Int))) = (k' : Int) := by omega
    rw [← y2] at y1
    obtain ⟨v1, w1, hr, ha⟩ := run_zapp y1 k' 35 (by omega)
    obtain ⟨a1, c1, e1⟩ := ha.new.shape
    subst e1
    have hlen1 : (ys ++ List.replicate k' 0).length = cap + k' := by simp [y2]
    rw [hlen1] at hr ha
    obtain ⟨_, hc1, hc3⟩ := ha.new.caps rfl
    rw [hlen1] at hc1
    unfold maxLen at hc3
    rw [y2] at hr
    have hnew := ha.new
    rw [← hlen1] at hnew
    have hnt := IsSl.take hnew (n := ln) (by rw [hlen1]; omega)
    have htk : (ys ++ List.replicate k' 0).take ln = xs := by rw [List.take_append_of_le_length (by omega), hln]; exact y3
    rw [htk] at hnt
    have hfr : Fr (fun b => (Value.slice a xs.length cap).ownBlock = some b) w w1 := ha.fr.mono fun b hb => by cases a <;> exact hb
    have hbk : (Value.slice a1 ln c1).ownBlock = (Value.slice a xs.length cap).ownBlock ∨ ∃ b, (Value.slice a1 ln c1).ownBlock = some b ∧ w.heap.size ≤ b := by
      rcases ha.blk with e | ⟨b, e, hle⟩
      · left; cases a <;> cases a1 <;> exact e
      · right; exact ⟨b, by cases a1 <;> exact e, hle⟩
    rw [← hln] at hfr hbk
    have Ha := Lib.hid (And.intro hnt (And.intro hfr (And.intro hbk hln)))
    clear hnew hnt htk hfr hbk
    rw [← hln] at hcap hl ⊢
    have hl1 : ln ≤ 900000000000 := by omega
    have hl2 : k ≤ 900000000000 := by omega
    have hl3 : ln + k ≤ cap + k' := by omega
    have hkp : 0 < k' := by omega
    have hkb : k' ≤ 900000000000 := by omega
    clear hk' hl
    have Hr := Lib.hid hr
    have Hlen := Lib.hid hlen1
    clear y1 y2 y3 h hln ha hr hlen1
    go_enter Try.func87, Try.ntmps87
    go_wp2_with (at_builtin; refine Lib.wpList_append_run _ rfl _ _ _ _ rfl _ _ rfl rfl _ _ Hr.out ?_)
    go_ret
    obtain ⟨q1, q2, q3, q4⟩ := Ha.out
    exact ⟨_, rfl, q1, q2, q3, a1, c1, by show Value.slice a1 ln c1 = _; rw [q4], by rw [← q4]; omega⟩
end Go.Proofs.Ythjokcjdphempaa
