/- Package regex: Check's deferred closure. -/
import Derived.Test.YtnbadnmmolagfaaDoorRegFlags
import Derived.Defers
import Derived.Recover
namespace Go.Proofs.YtnbadnmmolagfaaDoor
open Go.RowKit
set_option maxRecDepth 100000
set_option linter.unusedVariables false
set_option linter.unusedSimpArgs false

set_option maxHeartbeats 8000000 in
theorem catch_idle (p q : Addr) (w : World) :
    CallsD Tryd.prog 15 #[.pointer (some p), .pointer (some q)] .returning w fun e u' w' => e = .returned (.tuple #[]) ∧ u' = .returning ∧ w' = w := by
  refine callsD_of_wpS Tryd.func15 rfl fun c₀ cs hu => ?_
  apply wpS_seq
  apply wpS_region
  simp [wpOpsS, go_sem, recoverD, hu, Tryd.ntmps15, Exit.thenS]
  have hnil : ∀ W : World, (binOp .neq 20 .nilIface .nilIface).run Tryd.prog W = .ok (.bool false) W := fun _ => by kernel_rfl
  refine wpS_of_wp ?_
  rw [show (#[Value.pointer (some p), Value.pointer (some q)] ++ ((Array.replicate 18 undef).setIfInBounds 3 Value.nilIface).setIfInBounds 0 Value.nilIface : Array Value) = #[Value.pointer (some p), Value.pointer (some q), Value.nilIface, undef, undef, Value.nilIface, undef, undef, undef, undef, undef, undef, undef, undef, undef, undef, undef, undef, undef, undef] from rfl]
  go_wp2
  exact ⟨rfl, .returning, by rw [← hu], _, results_none rfl _ _ _, rfl, rfl, rfl⟩

set_option maxHeartbeats 8000000 in
theorem catch_panicking (p q : Nat) (c k : Int) (x y : Value) (older : List PanicEntry) (w : World) (hp : Blk w p [x] 3) (hq : Blk w q [y] 23) (hne : p ≠ q) (B : Nat) (hB : B ≤ p) (hB2 : B ≤ q) :
    CallsD Tryd.prog 15 #[.pointer (some ⟨p, 0, none⟩), .pointer (some ⟨q, 0, none⟩)] (.panicking ({ v := .iface 40 (.agg #[.int .i64 c, .int .i64 k]), recovered := false } :: older)) w fun e u' w' =>
      e = .returned (.tuple #[]) ∧ u' = .panicking ({ v := .iface 40 (.agg #[.int .i64 c, .int .i64 k]), recovered := true } :: older) ∧ Blk w' p [.int .i64 k] 3 ∧ Blk w' q [.int .i64 c] 23 ∧ Below B w w' := by
  refine callsD_of_wpS Tryd.func15 rfl fun c₀ cs hu => ?_
  apply wpS_seq
  apply wpS_region
  simp [wpOpsS, go_sem, recoverD, hu, Tryd.ntmps15, Exit.thenS]
  have hneq : ∀ W : World, (binOp .neq 20 (.iface 40 (.agg #[.int .i64 c, .int .i64 k])) .nilIface).run Tryd.prog W = .ok (.bool true) W := fun _ => by kernel_rfl
  have hta : ∀ W : World, (Instr.typeAssert (.iface 40 (.agg #[.int .i64 c, .int .i64 k])) 20 40 true).run Tryd.prog W = .ok (.tuple #[.agg #[.int .i64 c, .int .i64 k], .bool true]) W := fun _ => by kernel_rfl
  have c0 := hp.cell 0
  have d0 := hq.cell 0
  have f0 := hp.frozen 0
  have g0 := hq.frozen 0
  have hpl := hp.lt
  have hql := hq.lt
  have hqp : ¬ q = p := fun e => hne e.symm
  refine wpS_of_wp ?_
  rw [show (#[Value.pointer (some ⟨p, 0, none⟩), Value.pointer (some ⟨q, 0, none⟩)] ++ ((Array.replicate 18 undef).setIfInBounds 3 (Value.iface 40 (Value.agg #[Value.int IntKind.i64 c, Value.int IntKind.i64 k]))).setIfInBounds 0 (Value.iface 40 (Value.agg #[Value.int IntKind.i64 c, Value.int IntKind.i64 k])) : Array Value) = #[Value.pointer (some ⟨p, 0, none⟩), Value.pointer (some ⟨q, 0, none⟩), Value.iface 40 (Value.agg #[Value.int IntKind.i64 c, Value.int IntKind.i64 k]), undef, undef, Value.iface 40 (Value.agg #[Value.int IntKind.i64 c, Value.int IntKind.i64 k]), undef, undef, undef, undef, undef, undef, undef, undef, undef, undef, undef, undef, undef, undef] from rfl]
  go_wp2_with fail
  go_region
  refine ⟨rfl, _, rfl, _, results_none rfl _ _ _, rfl, rfl, ?_, ?_, ?_⟩
  · exact (((hp.set 0 _).set_other (by simpa using hne) _).alloc _)
  · exact (((hq.set_other (by simpa using hqp) _).set 0 _).alloc _)
  · exact ((((Below.refl B w).setCell (p := ⟨p, 0, none⟩) hB _).setCell (p := ⟨q, 0, none⟩) hB2 _).alloc (by simp; omega) _).drew
end Go.Proofs.YtnbadnmmolagfaaDoor
