/- The methods of a heap around (*Heap).call. -/
import Derived.Test.YthjokcjdphempaaCall
namespace Go.Proofs.Ythjokcjdphempaa
open Go.RowKit Hp Go.Shelf

set_option maxRecDepth 100000 in
set_option maxHeartbeats 1000000 in
theorem Grow_w {hp : Option Addr} {n : Int} {w : World} {R : Int → World → Prop}
    (H : Calls Try.prog 37 #[.pointer hp, .func (.func 66) #[] #[.pointer (some ⟨w.heap.size + 1, 0, none⟩), .pointer (some ⟨w.heap.size, 0, none⟩)]] ((w.alloc (.cells #[.pointer hp] 23)).alloc (.cells #[.int .i64 n] 3)) fun e w' => ∃ x, e = .returned (.int .i64 x) ∧ R x w') :
    Calls Try.prog 27 #[.pointer hp, .int .i64 n] w fun e w' => ∃ x, e = .returned (.int .i64 x) ∧ R x w' := by
  have hmf : ∀ (fn : Fn) (first cap : Array Value) (w : World), (Instr.makeFunc fn first cap).run Try.prog w = .ok (.func fn first cap) w := fun _ _ _ _ => rfl
  have HH := Lib.hid H
  clear H
  go_enter Try.func27, Try.ntmps27
  go_wp2_with (go_at_call 37; refine HH.out.mono ?_; rintro e w' ⟨x, rfl, hx⟩; have HX := Lib.hid hx; clear hx)
  go_ret
  exact ⟨_, rfl, HX.out⟩

set_option maxRecDepth 100000 in
set_option maxHeartbeats 1000000 in
theorem Shrink_w {hp : Option Addr} {n : Int} {w : World} {R : Int → World → Prop}
    (H : Calls Try.prog 37 #[.pointer hp, .func (.func 65) #[] #[.pointer (some ⟨w.heap.size + 1, 0, none⟩), .pointer (some ⟨w.heap.size, 0, none⟩)]] ((w.alloc (.cells #[.pointer hp] 23)).alloc (.cells #[.int .i64 n] 3)) fun e w' => ∃ x, e = .returned (.int .i64 x) ∧ R x w') :
    Calls Try.prog 24 #[.pointer hp, .int .i64 n] w fun e w' => ∃ x, e = .returned (.int .i64 x) ∧ R x w' := by
  have hmf : ∀ (fn : Fn) (first cap : Array Value) (w : World), (Instr.makeFunc fn first cap).run Try.prog w = .ok (.func fn first cap) w := fun _ _ _ _ => rfl
  have HH := Lib.hid H
  clear H
  go_enter Try.func24, Try.ntmps24
  go_wp2_with (go_at_call 37; refine HH.out.mono ?_; rintro e w' ⟨x, rfl, hx⟩; have HX := Lib.hid hx; clear hx)
  go_ret
  exact ⟨_, rfl, HX.out⟩

set_option maxRecDepth 100000 in
set_option maxHeartbeats 1000000 in
theorem Make_w {hp : Option Addr} {to tag refs raws : Int} {w : World} {R : Int → World → Prop}
    (H : Calls Try.prog 37 #[.pointer hp, .func (.func 49) #[] #[.pointer (some ⟨w.heap.size, 0, none⟩), .pointer (some ⟨w.heap.size + 1, 0, none⟩), .pointer (some ⟨w.heap.size + 1 + 1, 0, none⟩), .pointer (some ⟨w.heap.size + 1 + 1 + 1, 0, none⟩), .pointer (some ⟨w.heap.size + 1 + 1 + 1 + 1, 0, none⟩)]] (((((w.alloc (.cells #[.pointer hp] 23)).alloc (.cells #[.int .i64 to] 3)).alloc (.cells #[.int .i64 tag] 3)).alloc (.cells #[.int .i64 refs] 3)).alloc (.cells #[.int .i64 raws] 3)) fun e w' => ∃ x, e = .returned (.int .i64 x) ∧ R x w') :
    Calls Try.prog 14 #[.pointer hp, .int .i64 to, .int .i64 tag, .int .i64 refs, .int .i64 raws] w fun e w' => ∃ x, e = .returned (.int .i64 x) ∧ R x w' := by
  have hmf : ∀ (fn : Fn) (first cap : Array Value) (w : World), (Instr.makeFunc fn first cap).run Try.prog w = .ok (.func fn first cap) w := fun _ _ _ _ => rfl
  have HH := Lib.hid H
  clear H
  go_enter Try.func14, Try.ntmps14
  go_wp2_with (go_at_call 37; refine HH.out.mono ?_; rintro e w' ⟨x, rfl, hx⟩; have HX := Lib.hid hx; clear hx)
  go_ret
  exact ⟨_, rfl, HX.out⟩

set_option maxRecDepth 100000 in
set_option maxHeartbeats 1000000 in
theorem Copy_w {hp : Option Addr} {to fr : Int} {w : World} {R : Int → World → Prop}
    (H : Calls Try.prog 37 #[.pointer hp, .func (.func 73) #[] #[.pointer (some ⟨w.heap.size, 0, none⟩), .pointer (some ⟨w.heap.size + 1, 0, none⟩), .pointer (some ⟨w.heap.size + 1 + 1, 0, none⟩)]] (((w.alloc (.cells #[.pointer hp] 23)).alloc (.cells #[.int .i64 to] 3)).alloc (.cells #[.int .i64 fr] 3)) fun e w' => ∃ x, e = .returned (.int .i64 x) ∧ R x w') :
    Calls Try.prog 33 #[.pointer hp, .int .i64 to, .int .i64 fr] w fun e w' => ∃ x, e = .returned (.int .i64 x) ∧ R x w' := by
  have hmf : ∀ (fn : Fn) (first cap : Array Value) (w : World), (Instr.makeFunc fn first cap).run Try.prog w = .ok (.func fn first cap) w := fun _ _ _ _ => rfl
  have HH := Lib.hid H
  clear H
  go_enter Try.func33, Try.ntmps33
  go_wp2_with (go_at_call 37; refine HH.out.mono ?_; rintro e w' ⟨x, rfl, hx⟩; have HX := Lib.hid hx; clear hx)
  go_ret
  exact ⟨_, rfl, HX.out⟩

set_option maxRecDepth 100000 in
set_option maxHeartbeats 1000000 in
theorem Clear_w {hp : Option Addr} {k : Int} {w : World} {R : Int → World → Prop}
    (H : Calls Try.prog 37 #[.pointer hp, .func (.func 74) #[] #[.pointer (some ⟨w.heap.size, 0, none⟩), .pointer (some ⟨w.heap.size + 1, 0, none⟩)]] ((w.alloc (.cells #[.pointer hp] 23)).alloc (.cells #[.int .i64 k] 3)) fun e w' => ∃ x, e = .returned (.int .i64 x) ∧ R x w') :
    Calls Try.prog 34 #[.pointer hp, .int .i64 k] w fun e w' => ∃ x, e = .returned (.int .i64 x) ∧ R x w' := by
  have hmf : ∀ (fn : Fn) (first cap : Array Value) (w : World), (Instr.makeFunc fn first cap).run Try.prog w = .ok (.func fn first cap) w := fun _ _ _ _ => rfl
  have HH := Lib.hid H
  clear H
  go_enter Try.func34, Try.ntmps34
  go_wp2_with (go_at_call 37; refine HH.out.mono ?_; rintro e w' ⟨x, rfl, hx⟩; have HX := Lib.hid hx; clear hx)
  go_ret
  exact ⟨_, rfl, HX.out⟩

set_option maxRecDepth 100000 in
set_option maxHeartbeats 1000000 in
theorem Get_w {hp : Option Addr} {to of k : Int} {w : World} {R : Int → World → Prop}
    (H : Calls Try.prog 37 #[.pointer hp, .func (.func 70) #[] #[.pointer (some ⟨w.heap.size, 0, none⟩), .pointer (some ⟨w.heap.size + 1, 0, none⟩), .pointer (some ⟨w.heap.size + 1 + 1, 0, none⟩), .pointer (some ⟨w.heap.size + 1 + 1 + 1, 0, none⟩)]] ((((w.alloc (.cells #[.pointer hp] 23)).alloc (.cells #[.int .i64 to] 3)).alloc (.cells #[.int .i64 of] 3)).alloc (.cells #[.int .i64 k] 3)) fun e w' => ∃ x, e = .returned (.int .i64 x) ∧ R x w') :
    Calls Try.prog 30 #[.pointer hp, .int .i64 to, .int .i64 of, .int .i64 k] w fun e w' => ∃ x, e = .returned (.int .i64 x) ∧ R x w' := by
  have hmf : ∀ (fn : Fn) (first cap : Array Value) (w : World), (Instr.makeFunc fn first cap).run Try.prog w = .ok (.func fn first cap) w := fun _ _ _ _ => rfl
  have HH := Lib.hid H
  clear H
  go_enter Try.func30, Try.ntmps30
  go_wp2_with (go_at_call 37; refine HH.out.mono ?_; rintro e w' ⟨x, rfl, hx⟩; have HX := Lib.hid hx; clear hx)
  go_ret
  exact ⟨_, rfl, HX.out⟩

set_option maxRecDepth 100000 in
set_option maxHeartbeats 1000000 in
theorem Set_w {hp : Option Addr} {of k fr : Int} {w : World} {R : Int → World → Prop}
    (H : Calls Try.prog 37 #[.pointer hp, .func (.func 67) #[] #[.pointer (some ⟨w.heap.size, 0, none⟩), .pointer (some ⟨w.heap.size + 1, 0, none⟩), .pointer (some ⟨w.heap.size + 1 + 1 + 1, 0, none⟩), .pointer (some ⟨w.heap.size + 1 + 1, 0, none⟩)]] ((((w.alloc (.cells #[.pointer hp] 23)).alloc (.cells #[.int .i64 of] 3)).alloc (.cells #[.int .i64 k] 3)).alloc (.cells #[.int .i64 fr] 3)) fun e w' => ∃ x, e = .returned (.int .i64 x) ∧ R x w') :
    Calls Try.prog 28 #[.pointer hp, .int .i64 of, .int .i64 k, .int .i64 fr] w fun e w' => ∃ x, e = .returned (.int .i64 x) ∧ R x w' := by
  have hmf : ∀ (fn : Fn) (first cap : Array Value) (w : World), (Instr.makeFunc fn first cap).run Try.prog w = .ok (.func fn first cap) w := fun _ _ _ _ => rfl
  have HH := Lib.hid H
  clear H
  go_enter Try.func28, Try.ntmps28
  go_wp2_with (go_at_call 37; refine HH.out.mono ?_; rintro e w' ⟨x, rfl, hx⟩; have HX := Lib.hid hx; clear hx)
  go_ret
  exact ⟨_, rfl, HX.out⟩

set_option maxRecDepth 100000 in
set_option maxHeartbeats 1000000 in
theorem Store_w {hp : Option Addr} {of k v : Int} {w : World} {R : Int → World → Prop}
    (H : Calls Try.prog 37 #[.pointer hp, .func (.func 68) #[] #[.pointer (some ⟨w.heap.size, 0, none⟩), .pointer (some ⟨w.heap.size + 1, 0, none⟩), .pointer (some ⟨w.heap.size + 1 + 1 + 1, 0, none⟩), .pointer (some ⟨w.heap.size + 1 + 1, 0, none⟩)]] ((((w.alloc (.cells #[.pointer hp] 23)).alloc (.cells #[.int .i64 of] 3)).alloc (.cells #[.int .i64 k] 3)).alloc (.cells #[.int .i64 v] 3)) fun e w' => ∃ x, e = .returned (.int .i64 x) ∧ R x w') :
    Calls Try.prog 29 #[.pointer hp, .int .i64 of, .int .i64 k, .int .i64 v] w fun e w' => ∃ x, e = .returned (.int .i64 x) ∧ R x w' := by
  have hmf : ∀ (fn : Fn) (first cap : Array Value) (w : World), (Instr.makeFunc fn first cap).run Try.prog w = .ok (.func fn first cap) w := fun _ _ _ _ => rfl
  have HH := Lib.hid H
  clear H
  go_enter Try.func29, Try.ntmps29
  go_wp2_with (go_at_call 37; refine HH.out.mono ?_; rintro e w' ⟨x, rfl, hx⟩; have HX := Lib.hid hx; clear hx)
  go_ret
  exact ⟨_, rfl, HX.out⟩

set_option maxRecDepth 100000 in
set_option maxHeartbeats 1000000 in
theorem Step_w {hp : Option Addr} {n : Int} {w : World} {R : Int → World → Prop}
    (H : Calls Try.prog 37 #[.pointer hp, .func (.func 57) #[] #[.pointer (some ⟨w.heap.size + 1, 0, none⟩), .pointer (some ⟨w.heap.size, 0, none⟩)]] ((w.alloc (.cells #[.pointer hp] 23)).alloc (.cells #[.int .i64 n] 3)) fun e w' => ∃ x, e = .returned (.int .i64 x) ∧ R x w') :
    Calls Try.prog 19 #[.pointer hp, .int .i64 n] w fun e w' => ∃ x, e = .returned (.int .i64 x) ∧ R x w' := by
  have hmf : ∀ (fn : Fn) (first cap : Array Value) (w : World), (Instr.makeFunc fn first cap).run Try.prog w = .ok (.func fn first cap) w := fun _ _ _ _ => rfl
  have HH := Lib.hid H
  clear H
  go_enter Try.func19, Try.ntmps19
  go_wp2_with (go_at_call 37; refine HH.out.mono ?_; rintro e w' ⟨x, rfl, hx⟩; have HX := Lib.hid hx; clear hx)
  go_ret
  exact ⟨_, rfl, HX.out⟩

set_option maxRecDepth 100000 in
set_option maxHeartbeats 1000000 in
theorem Minor_w {hp : Option Addr} {w : World} {R : Int → World → Prop}
    (H : Calls Try.prog 37 #[.pointer hp, .func (.func 60) #[] #[.pointer (some ⟨w.heap.size, 0, none⟩)]] (w.alloc (.cells #[.pointer hp] 23)) fun e w' => ∃ x, e = .returned (.int .i64 x) ∧ R x w') :
    Calls Try.prog 22 #[.pointer hp] w fun e w' => ∃ x, e = .returned (.int .i64 x) ∧ R x w' := by
  have hmf : ∀ (fn : Fn) (first cap : Array Value) (w : World), (Instr.makeFunc fn first cap).run Try.prog w = .ok (.func fn first cap) w := fun _ _ _ _ => rfl
  have HH := Lib.hid H
  clear H
  go_enter Try.func22, Try.ntmps22
  go_wp2_with (go_at_call 37; refine HH.out.mono ?_; rintro e w' ⟨x, rfl, hx⟩; have HX := Lib.hid hx; clear hx)
  go_ret
  exact ⟨_, rfl, HX.out⟩

set_option maxRecDepth 100000 in
set_option maxHeartbeats 1000000 in
theorem Load_w {hp : Option Addr} {of k : Int} {w : World} {R : Int → Int → World → Prop}
    (H : Calls Try.prog 37 #[.pointer hp, .func (.func 72) #[] #[.pointer (some ⟨w.heap.size, 0, none⟩), .pointer (some ⟨w.heap.size + 1, 0, none⟩), .pointer (some ⟨w.heap.size + 1 + 1, 0, none⟩), .pointer (some ⟨w.heap.size + 1 + 1 + 1, 0, none⟩)]] ((((w.alloc (.cells #[.pointer hp] 23)).alloc (.cells #[.int .i64 of] 3)).alloc (.cells #[.int .i64 k] 3)).alloc (.cells #[.int .i64 0] 3)) fun e w' => ∃ x y, e = .returned (.int .i64 x) ∧ w'.cell? ⟨w.heap.size + 1 + 1 + 1, 0, none⟩ = some (.int .i64 y) ∧ w'.frozen? ⟨w.heap.size + 1 + 1 + 1, 0, none⟩ = false ∧ R x y w') :
    Calls Try.prog 32 #[.pointer hp, .int .i64 of, .int .i64 k] w fun e w' => ∃ W x y, e = .returned (.tuple #[.int .i64 y, .int .i64 x]) ∧ R x y W ∧ Eqw (W.setCell ⟨w.heap.size + 1 + 1 + 1, 0, none⟩ (.int .i64 y)) w' := by
  have hmf : ∀ (fn : Fn) (first cap : Array Value) (w : World), (Instr.makeFunc fn first cap).run Try.prog w = .ok (.func fn first cap) w := fun _ _ _ _ => rfl
  have HH := Lib.hid H
  clear H
  go_enter Try.func32, Try.ntmps32
  go_wp2_with (go_at_call 37; refine HH.out.mono ?_; rintro e w9 ⟨x, y, rfl, hv2, hv3, hx⟩; have HX := Lib.hid hx; clear hx)
  have hc : (w9.setCell ⟨w.heap.size + 1 + 1 + 1, 0, none⟩ (.int .i64 y)).cell? ⟨w.heap.size + 1 + 1 + 1, 0, none⟩ = some (.int .i64 y) := World.cell?_setCell_same _ _ _ hv2
  refine ⟨rfl, _, ?_, w9, x, y, rfl, HX.out, rfl, rfl, rfl, rfl⟩
  simp [results, Try.results32, go_sem, hc]

set_option maxRecDepth 100000 in
set_option maxHeartbeats 1000000 in
theorem Empty_w {hp : Option Addr} {k : Int} {w : World} {R : Int → Bool → World → Prop}
    (H : Calls Try.prog 37 #[.pointer hp, .func (.func 75) #[] #[.pointer (some ⟨w.heap.size, 0, none⟩), .pointer (some ⟨w.heap.size + 1, 0, none⟩), .pointer (some ⟨w.heap.size + 1 + 1, 0, none⟩)]] (((w.alloc (.cells #[.pointer hp] 23)).alloc (.cells #[.int .i64 k] 3)).alloc (.cells #[.bool false] 4)) fun e w' => ∃ x y, e = .returned (.int .i64 x) ∧ w'.cell? ⟨w.heap.size + 1 + 1, 0, none⟩ = some (.bool y) ∧ w'.frozen? ⟨w.heap.size + 1 + 1, 0, none⟩ = false ∧ R x y w') :
    Calls Try.prog 35 #[.pointer hp, .int .i64 k] w fun e w' => ∃ W x y, e = .returned (.tuple #[.bool y, .int .i64 x]) ∧ R x y W ∧ Eqw (W.setCell ⟨w.heap.size + 1 + 1, 0, none⟩ (.bool y)) w' := by
  have hmf : ∀ (fn : Fn) (first cap : Array Value) (w : World), (Instr.makeFunc fn first cap).run Try.prog w = .ok (.func fn first cap) w := fun _ _ _ _ => rfl
  have HH := Lib.hid H
  clear H
  go_enter Try.func35, Try.ntmps35
  go_wp2_with (go_at_call 37; refine HH.out.mono ?_; rintro e w9 ⟨x, y, rfl, hv2, hv3, hx⟩; have HX := Lib.hid hx; clear hx)
  have hc : (w9.setCell ⟨w.heap.size + 1 + 1, 0, none⟩ (.bool y)).cell? ⟨w.heap.size + 1 + 1, 0, none⟩ = some (.bool y) := World.cell?_setCell_same _ _ _ hv2
  refine ⟨rfl, _, ?_, w9, x, y, rfl, HX.out, rfl, rfl, rfl, rfl⟩
  simp [results, Try.results35, go_sem, hc]

set_option maxRecDepth 100000 in
set_option maxHeartbeats 1000000 in
theorem Alike_w {hp : Option Addr} {a b : Int} {w : World} {R : Int → Bool → World → Prop}
    (H : Calls Try.prog 37 #[.pointer hp, .func (.func 71) #[] #[.pointer (some ⟨w.heap.size, 0, none⟩), .pointer (some ⟨w.heap.size + 1, 0, none⟩), .pointer (some ⟨w.heap.size + 1 + 1, 0, none⟩), .pointer (some ⟨w.heap.size + 1 + 1 + 1, 0, none⟩)]] ((((w.alloc (.cells #[.pointer hp] 23)).alloc (.cells #[.int .i64 a] 3)).alloc (.cells #[.int .i64 b] 3)).alloc (.cells #[.bool false] 4)) fun e w' => ∃ x y, e = .returned (.int .i64 x) ∧ w'.cell? ⟨w.heap.size + 1 + 1 + 1, 0, none⟩ = some (.bool y) ∧ w'.frozen? ⟨w.heap.size + 1 + 1 + 1, 0, none⟩ = false ∧ R x y w') :
    Calls Try.prog 31 #[.pointer hp, .int .i64 a, .int .i64 b] w fun e w' => ∃ W x y, e = .returned (.tuple #[.bool y, .int .i64 x]) ∧ R x y W ∧ Eqw (W.setCell ⟨w.heap.size + 1 + 1 + 1, 0, none⟩ (.bool y)) w' := by
  have hmf : ∀ (fn : Fn) (first cap : Array Value) (w : World), (Instr.makeFunc fn first cap).run Try.prog w = .ok (.func fn first cap) w := fun _ _ _ _ => rfl
  have HH := Lib.hid H
  clear H
  go_enter Try.func31, Try.ntmps31
  go_wp2_with (go_at_call 37; refine HH.out.mono ?_; rintro e w9 ⟨x, y, rfl, hv2, hv3, hx⟩; have HX := Lib.hid hx; clear hx)
  have hc : (w9.setCell ⟨w.heap.size + 1 + 1 + 1, 0, none⟩ (.bool y)).cell? ⟨w.heap.size + 1 + 1 + 1, 0, none⟩ = some (.bool y) := World.cell?_setCell_same _ _ _ hv2
  refine ⟨rfl, _, ?_, w9, x, y, rfl, HX.out, rfl, rfl, rfl, rfl⟩
  simp [results, Try.results31, go_sem, hc]

set_option maxRecDepth 100000 in
set_option maxHeartbeats 1000000 in
theorem Live_w {hp : Option Addr} {w : World} {R : Int → Int → World → Prop}
    (H : Calls Try.prog 37 #[.pointer hp, .func (.func 38) #[] #[.pointer (some ⟨w.heap.size, 0, none⟩), .pointer (some ⟨w.heap.size + 1, 0, none⟩)]] ((w.alloc (.cells #[.pointer hp] 23)).alloc (.cells #[.int .i64 0] 3)) fun e w' => ∃ x y, e = .returned (.int .i64 x) ∧ w'.cell? ⟨w.heap.size + 1, 0, none⟩ = some (.int .i64 y) ∧ w'.frozen? ⟨w.heap.size + 1, 0, none⟩ = false ∧ R x y w') :
    Calls Try.prog 12 #[.pointer hp] w fun e w' => ∃ W x y, e = .returned (.int .i64 y) ∧ R x y W ∧ Eqw (W.setCell ⟨w.heap.size + 1, 0, none⟩ (.int .i64 y)) w' := by
  have hmf : ∀ (fn : Fn) (first cap : Array Value) (w : World), (Instr.makeFunc fn first cap).run Try.prog w = .ok (.func fn first cap) w := fun _ _ _ _ => rfl
  have HH := Lib.hid H
  clear H
  go_enter Try.func12, Try.ntmps12
  go_wp2_with (go_at_call 37; refine HH.out.mono ?_; rintro e w9 ⟨x, y, rfl, hv2, hv3, hx⟩; have HX := Lib.hid hx; clear hx)
  have hc : (w9.setCell ⟨w.heap.size + 1, 0, none⟩ (.int .i64 y)).cell? ⟨w.heap.size + 1, 0, none⟩ = some (.int .i64 y) := World.cell?_setCell_same _ _ _ hv2
  refine ⟨rfl, _, ?_, w9, x, y, rfl, HX.out, rfl, rfl, rfl, rfl⟩
  simp [results, Try.results12, go_sem, hc]

end Go.Proofs.Ythjokcjdphempaa
