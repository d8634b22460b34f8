import Derived.Test.YtkplhmmajafflaaProg
import Derived.Test.YtkplhmmajafflaaData
import Derived.KernelRfl
/- The whole-row laws at this translation's types. -/
namespace Go.Proofs.Ytkplhmmajafflaa
open Go.RowKit
set_option linter.unusedSimpArgs false
set_option linter.unusedVariables false
theorem aggARP : AggTy Try.prog 27 5 := ⟨fun w => by kernel_rfl, fun w => by kernel_rfl⟩
@[go_sem ↓] theorem ldARP (ρ : Operand → Value) (dst : Option Tmp) (x : Operand) (ty : TypeId) (pos : String) (after : Array Edge) (g : Option (Nat × Bool)) (w : World) : Sem.run Try.prog (execOp ρ { dst, op := .load 27 x, type := ty, pos, after, guard := g }) w = loadRow 5 (ρ x) w (slowLoad Try.prog 27 (ρ x) w) := run_loadAgg aggARP ρ dst x ty pos after g w
@[go_sem ↓] theorem stARP (ρ : Operand → Value) (dst : Option Tmp) (p x : Operand) (ty : TypeId) (pos : String) (after : Array Edge) (g : Option (Nat × Bool)) (w : World) : Sem.run Try.prog (execOp ρ { dst, op := .store 27 p x, type := ty, pos, after, guard := g }) w = storeRow 5 (ρ p) (ρ x) w (slowStore Try.prog 27 (ρ p) (ρ x) w) := run_storeAgg aggARP ρ dst p x ty pos after g w
theorem aggHD : AggTy Try.prog 29 6 := ⟨fun w => by kernel_rfl, fun w => by kernel_rfl⟩
@[go_sem ↓] theorem ldHD (ρ : Operand → Value) (dst : Option Tmp) (x : Operand) (ty : TypeId) (pos : String) (after : Array Edge) (g : Option (Nat × Bool)) (w : World) : Sem.run Try.prog (execOp ρ { dst, op := .load 29 x, type := ty, pos, after, guard := g }) w = loadRow 6 (ρ x) w (slowLoad Try.prog 29 (ρ x) w) := run_loadAgg aggHD ρ dst x ty pos after g w
@[go_sem ↓] theorem stHD (ρ : Operand → Value) (dst : Option Tmp) (p x : Operand) (ty : TypeId) (pos : String) (after : Array Edge) (g : Option (Nat × Bool)) (w : World) : Sem.run Try.prog (execOp ρ { dst, op := .store 29 p x, type := ty, pos, after, guard := g }) w = storeRow 6 (ρ p) (ρ x) w (slowStore Try.prog 29 (ρ p) (ρ x) w) := run_storeAgg aggHD ρ dst p x ty pos after g w
theorem aggFR : AggTy Try.prog 31 15 := ⟨fun w => by kernel_rfl, fun w => by kernel_rfl⟩
@[go_sem ↓] theorem ldFR (ρ : Operand → Value) (dst : Option Tmp) (x : Operand) (ty : TypeId) (pos : String) (after : Array Edge) (g : Option (Nat × Bool)) (w : World) : Sem.run Try.prog (execOp ρ { dst, op := .load 31 x, type := ty, pos, after, guard := g }) w = loadRow 15 (ρ x) w (slowLoad Try.prog 31 (ρ x) w) := run_loadAgg aggFR ρ dst x ty pos after g w
@[go_sem ↓] theorem stFR (ρ : Operand → Value) (dst : Option Tmp) (p x : Operand) (ty : TypeId) (pos : String) (after : Array Edge) (g : Option (Nat × Bool)) (w : World) : Sem.run Try.prog (execOp ρ { dst, op := .store 31 p x, type := ty, pos, after, guard := g }) w = storeRow 15 (ρ p) (ρ x) w (slowStore Try.prog 31 (ρ p) (ρ x) w) := run_storeAgg aggFR ρ dst p x ty pos after g w
theorem aggFL : AggTy Try.prog 43 2 := ⟨fun w => by kernel_rfl, fun w => by kernel_rfl⟩
@[go_sem ↓] theorem ldFL (ρ : Operand → Value) (dst : Option Tmp) (x : Operand) (ty : TypeId) (pos : String) (after : Array Edge) (g : Option (Nat × Bool)) (w : World) : Sem.run Try.prog (execOp ρ { dst, op := .load 43 x, type := ty, pos, after, guard := g }) w = loadRow 2 (ρ x) w (slowLoad Try.prog 43 (ρ x) w) := run_loadAgg aggFL ρ dst x ty pos after g w
@[go_sem ↓] theorem stFL (ρ : Operand → Value) (dst : Option Tmp) (p x : Operand) (ty : TypeId) (pos : String) (after : Array Edge) (g : Option (Nat × Bool)) (w : World) : Sem.run Try.prog (execOp ρ { dst, op := .store 43 p x, type := ty, pos, after, guard := g }) w = storeRow 2 (ρ p) (ρ x) w (slowStore Try.prog 43 (ρ p) (ρ x) w) := run_storeAgg aggFL ρ dst p x ty pos after g w
theorem aggARPP : AggTy Try.prog 74 5 := ⟨fun w => by kernel_rfl, fun w => by kernel_rfl⟩
@[go_sem ↓] theorem ldARPP (ρ : Operand → Value) (dst : Option Tmp) (x : Operand) (ty : TypeId) (pos : String) (after : Array Edge) (g : Option (Nat × Bool)) (w : World) : Sem.run Try.prog (execOp ρ { dst, op := .load 74 x, type := ty, pos, after, guard := g }) w = loadRow 5 (ρ x) w (slowLoad Try.prog 74 (ρ x) w) := run_loadAgg aggARPP ρ dst x ty pos after g w
@[go_sem ↓] theorem stARPP (ρ : Operand → Value) (dst : Option Tmp) (p x : Operand) (ty : TypeId) (pos : String) (after : Array Edge) (g : Option (Nat × Bool)) (w : World) : Sem.run Try.prog (execOp ρ { dst, op := .store 74 p x, type := ty, pos, after, guard := g }) w = storeRow 5 (ρ p) (ρ x) w (slowStore Try.prog 74 (ρ p) (ρ x) w) := run_storeAgg aggARPP ρ dst p x ty pos after g w
theorem aggIPP : AggTy Try.prog 75 6 := ⟨fun w => by kernel_rfl, fun w => by kernel_rfl⟩
@[go_sem ↓] theorem ldIPP (ρ : Operand → Value) (dst : Option Tmp) (x : Operand) (ty : TypeId) (pos : String) (after : Array Edge) (g : Option (Nat × Bool)) (w : World) : Sem.run Try.prog (execOp ρ { dst, op := .load 75 x, type := ty, pos, after, guard := g }) w = loadRow 6 (ρ x) w (slowLoad Try.prog 75 (ρ x) w) := run_loadAgg aggIPP ρ dst x ty pos after g w
@[go_sem ↓] theorem stIPP (ρ : Operand → Value) (dst : Option Tmp) (p x : Operand) (ty : TypeId) (pos : String) (after : Array Edge) (g : Option (Nat × Bool)) (w : World) : Sem.run Try.prog (execOp ρ { dst, op := .store 75 p x, type := ty, pos, after, guard := g }) w = storeRow 6 (ρ p) (ρ x) w (slowStore Try.prog 75 (ρ p) (ρ x) w) := run_storeAgg aggIPP ρ dst p x ty pos after g w
end Go.Proofs.Ytkplhmmajafflaa
