import Derived.Test.YtkklhidoonefoaaProg
import Derived.Test.YtkklhidoonefoaaData
import Derived.KernelRfl
/- The whole-row laws at this translation's types. -/
namespace Go.Proofs.Ytkklhidoonefoaa
open Go.RowKit
theorem agg40 : AggTy Try.prog 40 38 := ⟨fun w => by kernel_rfl, fun w => by kernel_rfl⟩
@[go_sem ↓] theorem ld40 (ρ : Operand → Value) (dst : Option Tmp) (x : Operand) (ty : TypeId) (pos : String) (after : Array Edge) (g : Option (Nat × Bool)) (w : World) : Sem.run Try.prog (execOp ρ { dst, op := .load 40 x, type := ty, pos, after, guard := g }) w = loadRow 38 (ρ x) w (slowLoad Try.prog 40 (ρ x) w) := run_loadAgg agg40 ρ dst x ty pos after g w
@[go_sem ↓] theorem st40 (ρ : Operand → Value) (dst : Option Tmp) (p x : Operand) (ty : TypeId) (pos : String) (after : Array Edge) (g : Option (Nat × Bool)) (w : World) : Sem.run Try.prog (execOp ρ { dst, op := .store 40 p x, type := ty, pos, after, guard := g }) w = storeRow 38 (ρ p) (ρ x) w (slowStore Try.prog 40 (ρ p) (ρ x) w) := run_storeAgg agg40 ρ dst p x ty pos after g w
theorem agg38 : AggTy Try.prog 38 15 := ⟨fun w => by kernel_rfl, fun w => by kernel_rfl⟩
@[go_sem ↓] theorem ld38 (ρ : Operand → Value) (dst : Option Tmp) (x : Operand) (ty : TypeId) (pos : String) (after : Array Edge) (g : Option (Nat × Bool)) (w : World) : Sem.run Try.prog (execOp ρ { dst, op := .load 38 x, type := ty, pos, after, guard := g }) w = loadRow 15 (ρ x) w (slowLoad Try.prog 38 (ρ x) w) := run_loadAgg agg38 ρ dst x ty pos after g w
@[go_sem ↓] theorem st38 (ρ : Operand → Value) (dst : Option Tmp) (p x : Operand) (ty : TypeId) (pos : String) (after : Array Edge) (g : Option (Nat × Bool)) (w : World) : Sem.run Try.prog (execOp ρ { dst, op := .store 38 p x, type := ty, pos, after, guard := g }) w = storeRow 15 (ρ p) (ρ x) w (slowStore Try.prog 38 (ρ p) (ρ x) w) := run_storeAgg agg38 ρ dst p x ty pos after g w
theorem agg31 : AggTy Try.prog 31 21 := ⟨fun w => by kernel_rfl, fun w => by kernel_rfl⟩
@[go_sem ↓] theorem ld31 (ρ : Operand → Value) (dst : Option Tmp) (x : Operand) (ty : TypeId) (pos : String) (after : Array Edge) (g : Option (Nat × Bool)) (w : World) : Sem.run Try.prog (execOp ρ { dst, op := .load 31 x, type := ty, pos, after, guard := g }) w = loadRow 21 (ρ x) w (slowLoad Try.prog 31 (ρ x) w) := run_loadAgg agg31 ρ dst x ty pos after g w
@[go_sem ↓] theorem st31 (ρ : Operand → Value) (dst : Option Tmp) (p x : Operand) (ty : TypeId) (pos : String) (after : Array Edge) (g : Option (Nat × Bool)) (w : World) : Sem.run Try.prog (execOp ρ { dst, op := .store 31 p x, type := ty, pos, after, guard := g }) w = storeRow 21 (ρ p) (ρ x) w (slowStore Try.prog 31 (ρ p) (ρ x) w) := run_storeAgg agg31 ρ dst p x ty pos after g w
theorem agg65 : AggTy Try.prog 65 10 := ⟨fun w => by kernel_rfl, fun w => by kernel_rfl⟩
@[go_sem ↓] theorem ld65 (ρ : Operand → Value) (dst : Option Tmp) (x : Operand) (ty : TypeId) (pos : String) (after : Array Edge) (g : Option (Nat × Bool)) (w : World) : Sem.run Try.prog (execOp ρ { dst, op := .load 65 x, type := ty, pos, after, guard := g }) w = loadRow 10 (ρ x) w (slowLoad Try.prog 65 (ρ x) w) := run_loadAgg agg65 ρ dst x ty pos after g w
@[go_sem ↓] theorem st65 (ρ : Operand → Value) (dst : Option Tmp) (p x : Operand) (ty : TypeId) (pos : String) (after : Array Edge) (g : Option (Nat × Bool)) (w : World) : Sem.run Try.prog (execOp ρ { dst, op := .store 65 p x, type := ty, pos, after, guard := g }) w = storeRow 10 (ρ p) (ρ x) w (slowStore Try.prog 65 (ρ p) (ρ x) w) := run_storeAgg agg65 ρ dst p x ty pos after g w
def zeroRt : Rt := ⟨⟨0, 0, 0, 0, 0, 0, 0, 0, 0, 0, 0, 0, 0, 0, 0, false, 0, 0, 0, 0, 0⟩, ⟨0, ⟨none, 0, 0⟩, 0, false, 0, false, 0, false, 0, ⟨none, 0, 0⟩, ⟨none, 0, 0⟩, 0, 0, 0, 0⟩, 0, false⟩
theorem sl44 : SliceTy Try.prog 44 40 38 := ⟨by kernel_rfl, fun w => by kernel_rfl, ⟨.agg zeroRt.cs, fun w => by kernel_rfl⟩, by decide⟩
@[go_sem ↓] theorem bs44_3 (ρ : Operand → Value) (dst : Option Tmp) (x0 x1 x2 : Operand) (ty : TypeId) (pos : String) (after : Array Edge) (g : Option (Nat × Bool)) (w : World) :
    Sem.run Try.prog (execOp ρ { dst, op := .buildSlice 44 3 #[(0, x0), (1, x1), (2, x2)], type := ty, pos, after, guard := g }) w = buildRow 38 40 [ρ x0, ρ x1, ρ x2] w (slowBuild Try.prog 44 3 #[(0, ρ x0), (1, ρ x1), (2, ρ x2)] w) :=
  by
  have h := run_buildSlice_rows sl44 ρ dst [x0, x1, x2] (by simp) (by simp) ty pos after g w
  simp only [List.zipIdx_cons, List.zipIdx_nil, List.map_cons, List.map_nil, List.length_cons, List.length_nil, Nat.zero_add, Nat.reduceAdd, List.map_toArray] at h
  exact h
end Go.Proofs.Ytkklhidoonefoaa
