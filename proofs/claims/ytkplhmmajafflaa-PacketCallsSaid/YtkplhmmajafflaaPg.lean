import Derived.Test.YtkplhmmajafflaaPf
import Derived.DeepKeys2
import Derived.MapViews
/- Frames: bounds, equality, and what a check says. -/
namespace Go.Proofs.Ytkplhmmajafflaa
open Go.RowKit
set_option linter.unusedSimpArgs false
set_option linter.unusedVariables false

def u64r (x : Int) : Prop := 0 ≤ x ∧ x ≤ 18446744073709551615
def u32r (x : Int) : Prop := 0 ≤ x ∧ x ≤ 4294967295
def i64r (x : Int) : Prop := -9223372036854775808 ≤ x ∧ x ≤ 9223372036854775807
theorem u64r.wf {x : Int} (h : u64r x) : (Lit.int .u64 x).wf = true := by
  obtain ⟨h0, h1⟩ := h
  simp [Lit.wf, IntKind.min, IntKind.max, IntKind.signed, IntKind.bits]
  omega
theorem u32r.wf {x : Int} (h : u32r x) : (Lit.int .u32 x).wf = true := by
  obtain ⟨h0, h1⟩ := h
  simp [Lit.wf, IntKind.min, IntKind.max, IntKind.signed, IntKind.bits]
  omega
theorem i64r.wf {x : Int} (h : i64r x) : (Lit.int .i64 x).wf = true := by
  obtain ⟨h0, h1⟩ := h
  simp [Lit.wf, IntKind.min, IntKind.max, IntKind.signed, IntKind.bits]
  omega
structure Arp.ok (x : Arp) : Prop where
  op : i64r x.op
  sm : u64r x.sm
  si : u32r x.si
  tm : u64r x.tm
  ti : u32r x.ti
structure Hd.ok (x : Hd) : Prop where
  src : u32r x.src
  dst : u32r x.dst
  ttl : i64r x.ttl
  proto : i64r x.proto
  sp : i64r x.sp
  dp : i64r x.dp
structure Fr.ok (x : Fr) : Prop where
  src : u64r x.src
  dst : u64r x.dst
  kind : i64r x.kind
  arp : x.arp.ok
  ip : x.ip.ok
  data : u64r x.data
def zeroArp : Arp := ⟨0, 0, 0, 0, 0⟩
def zeroHd : Hd := ⟨0, 0, 0, 0, 0, 0⟩
def zeroFr : Fr := ⟨0, 0, 0, zeroArp, zeroHd, 0⟩
theorem zeroArp.ok : zeroArp.ok := by constructor <;> (constructor <;> decide)
theorem zeroHd.ok : zeroHd.ok := by constructor <;> (constructor <;> decide)
theorem zeroFr.ok : zeroFr.ok := ⟨⟨by decide, by decide⟩, ⟨by decide, by decide⟩, ⟨by decide, by decide⟩, zeroArp.ok, zeroHd.ok, ⟨by decide, by decide⟩⟩
def Arp.lits (x : Arp) : List Lit := [.int .i64 x.op, .int .u64 x.sm, .int .u32 x.si, .int .u64 x.tm, .int .u32 x.ti]
def Hd.lits (x : Hd) : List Lit := [.int .u32 x.src, .int .u32 x.dst, .int .i64 x.ttl, .int .i64 x.proto, .int .i64 x.sp, .int .i64 x.dp]
theorem one64 (t : TypeId) (k : IntKind) (x : Int) (m : Nat) (ht : Try.prog.underlying t = some (.int k)) (h : (Lit.int k x).wf = true) : Try.prog.keyLits (m + 1) t [.int k x] = some [.int k x] := by
  simp [Program.keyLits, ht, h]
theorem arp_lits (x : Arp) (h : x.ok) (m : Nat) : Try.prog.keyLits (m + 2) 27 x.cs.toList = some x.lits := by
  have hc : Try.prog.cellsOf 27 = 5 := by kernel_rfl
  have h3 : Try.prog.cellsOf 3 = 1 := by kernel_rfl
  have hm : Try.prog.cellsOf 23 = 1 := by kernel_rfl
  have hi : Try.prog.cellsOf 25 = 1 := by kernel_rfl
  have e1 := one64 3 .i64 x.op m Try.underlying3 h.op.wf
  have e2 := one64 23 .u64 x.sm m Try.underlying23 h.sm.wf
  have e3 := one64 25 .u32 x.si m Try.underlying25 h.si.wf
  have e4 := one64 23 .u64 x.tm m Try.underlying23 h.tm.wf
  have e5 := one64 25 .u32 x.ti m Try.underlying25 h.ti.wf
  unfold Program.keyLits
  simp only [Try.underlying27, Arp.cs]
  simp [hc, h3, hm, hi, e1, e2, e3, e4, e5, Arp.lits]
theorem hd_lits (x : Hd) (h : x.ok) (m : Nat) : Try.prog.keyLits (m + 2) 29 x.cs.toList = some x.lits := by
  have hc : Try.prog.cellsOf 29 = 6 := by kernel_rfl
  have h3 : Try.prog.cellsOf 3 = 1 := by kernel_rfl
  have hi : Try.prog.cellsOf 25 = 1 := by kernel_rfl
  have e1 := one64 25 .u32 x.src m Try.underlying25 h.src.wf
  have e2 := one64 25 .u32 x.dst m Try.underlying25 h.dst.wf
  have e3 := one64 3 .i64 x.ttl m Try.underlying3 h.ttl.wf
  have e4 := one64 3 .i64 x.proto m Try.underlying3 h.proto.wf
  have e5 := one64 3 .i64 x.sp m Try.underlying3 h.sp.wf
  have e6 := one64 3 .i64 x.dp m Try.underlying3 h.dp.wf
  unfold Program.keyLits
  simp only [Try.underlying29, Hd.cs]
  simp [hc, h3, hi, e1, e2, e3, e4, e5, e6, Hd.lits]
def Fr.lits (x : Fr) : List Lit := [.int .u64 x.src, .int .u64 x.dst, .int .i64 x.kind] ++ x.arp.lits ++ x.ip.lits ++ [.int .u64 x.data]
theorem fr_lits (x : Fr) (h : x.ok) (m : Nat) : Try.prog.keyLits (m + 3) 31 x.cs.toList = some x.lits := by
  have hc : Try.prog.cellsOf 31 = 15 := by kernel_rfl
  have h3 : Try.prog.cellsOf 3 = 1 := by kernel_rfl
  have hm : Try.prog.cellsOf 23 = 1 := by kernel_rfl
  have hu : Try.prog.cellsOf 22 = 1 := by kernel_rfl
  have ha : Try.prog.cellsOf 27 = 5 := by kernel_rfl
  have hh : Try.prog.cellsOf 29 = 6 := by kernel_rfl
  have e1 := one64 23 .u64 x.src (m + 1) Try.underlying23 h.src.wf
  have e2 := one64 23 .u64 x.dst (m + 1) Try.underlying23 h.dst.wf
  have e3 := one64 3 .i64 x.kind (m + 1) Try.underlying3 h.kind.wf
  have e4 := arp_lits x.arp h.arp m
  have e5 := hd_lits x.ip h.ip m
  have e6 := one64 22 .u64 x.data (m + 1) Try.underlying22 h.data.wf
  simp only [Arp.cs, Hd.cs] at e4 e5
  unfold Program.keyLits
  simp only [Try.underlying31, Fr.cs]
  simp [hc, h3, hm, hu, ha, hh, e1, e2, e3, e4, e5, e6, Fr.lits]
structure Flt.ok (x : Flt) : Prop where
  err : i64r x.err
  pos : i64r x.pos
def Flt.lits (x : Flt) : List Lit := [.int .i64 x.err, .int .i64 x.pos]
theorem flt_lits (x : Flt) (h : x.ok) (m : Nat) : Try.prog.keyLits (m + 2) 43 x.cs.toList = some x.lits := by
  have hc : Try.prog.cellsOf 43 = 2 := by kernel_rfl
  have h3 : Try.prog.cellsOf 3 = 1 := by kernel_rfl
  have hi : Try.prog.cellsOf 34 = 1 := by kernel_rfl
  have e1 := one64 34 .i64 x.err m Try.underlying34 h.err.wf
  have e2 := one64 3 .i64 x.pos m Try.underlying3 h.pos.wf
  unfold Program.keyLits
  simp only [Try.underlying43, Flt.cs]
  simp [hc, h3, hi, e1, e2, Flt.lits]
theorem Arp.lits_inj {x y : Arp} : x.lits = y.lits ↔ x = y := by
  simp [Arp.lits, Arp.ext_iff]
theorem Hd.lits_inj {x y : Hd} : x.lits = y.lits ↔ x = y := by
  simp [Hd.lits, Hd.ext_iff]
theorem Fr.lits_inj {x y : Fr} : x.lits = y.lits ↔ x = y := by
  simp [Fr.lits, Fr.ext_iff, Arp.lits, Hd.lits, Arp.ext_iff, Hd.ext_iff, and_assoc]
theorem Flt.lits_inj {x y : Flt} : x.lits = y.lits ↔ x = y := by
  simp [Flt.lits, Flt.ext_iff]
instance : DecidableEq Arp := fun x y => decidable_of_iff (x.op = y.op ∧ x.sm = y.sm ∧ x.si = y.si ∧ x.tm = y.tm ∧ x.ti = y.ti) Arp.ext_iff.symm
instance : DecidableEq Hd := fun x y => decidable_of_iff (x.src = y.src ∧ x.dst = y.dst ∧ x.ttl = y.ttl ∧ x.proto = y.proto ∧ x.sp = y.sp ∧ x.dp = y.dp) Hd.ext_iff.symm
instance : DecidableEq Fr := fun x y => decidable_of_iff (x.src = y.src ∧ x.dst = y.dst ∧ x.kind = y.kind ∧ x.arp = y.arp ∧ x.ip = y.ip ∧ x.data = y.data) Fr.ext_iff.symm
instance : DecidableEq Flt := fun x y => decidable_of_iff (x.err = y.err ∧ x.pos = y.pos) Flt.ext_iff.symm
theorem eql_lits {t : TypeId} (m : Nat) (hm : m ≤ 10000) (hk : Try.prog.keyTypeAt m t = true) {xs ys : Array Value} {K L : List Lit} (fx : (Value.agg xs).formed Try.prog t = true) (fy : (Value.agg ys).formed Try.prog t = true)
    (hx : Try.prog.keyLits m t xs.toList = some K) (hy : Try.prog.keyLits m t ys.toList = some L) (r : Bool) (hr : r = true ↔ K = L) (W : World) : (Op.equal t (.agg xs) (.agg ys)).run Try.prog W = .ok r W := by
  obtain ⟨q, hq, hi⟩ := run_equalIn_deep (10000 - m) m t hk W _ _ (.agg xs) (.agg ys) _ _ fx fy hx hy
  have : q = r := by
    cases q <;> cases r <;> simp_all
  rw [← this]
  rw [show 10000 - m + m = 10000 by omega] at hq
  exact hq
theorem eql_agg {P : Program} {t : TypeId} {x y : Array Value} {W : World} {r : Bool} (h : (Op.equal t (.agg x) (.agg y)).run P W = .ok r W) : (binOp .eql t (.agg x) (.agg y)).run P W = .ok (.bool r) W := by
  simp only [binOp, Sem.run_bind, h, Result.andThen_ok, Sem.run_pure]
theorem neq_agg {P : Program} {t : TypeId} {x y : Array Value} {W : World} {r : Bool} (h : (Op.equal t (.agg x) (.agg y)).run P W = .ok r W) : (binOp .neq t (.agg x) (.agg y)).run P W = .ok (.bool (!r)) W := by
  simp only [binOp, Sem.run_bind, h, Result.andThen_ok, Sem.run_pure]
theorem arp_form (x : Arp) : (Value.agg x.cs).formed Try.prog 27 = true := by
  have hc : Try.prog.cellsOf 27 = x.cs.size := by rw [Arp.size_cs]; kernel_rfl
  simp [Value.formed, Try.underlying27, hc]
theorem arp_eql (x y : Arp) (hx : x.ok) (hy : y.ok) (r : Bool) (hr : r = true ↔ x = y) (W : World) : (binOp .eql 27 (.agg x.cs) (.agg y.cs)).run Try.prog W = .ok (.bool r) W :=
  eql_agg (eql_lits 2 (by omega) (by kernel_rfl) (arp_form x) (arp_form y) (arp_lits x hx 0) (arp_lits y hy 0) r (hr.trans Arp.lits_inj.symm) W)
theorem arp_neq (x y : Arp) (hx : x.ok) (hy : y.ok) (r : Bool) (hr : r = true ↔ x ≠ y) (W : World) : (binOp .neq 27 (.agg x.cs) (.agg y.cs)).run Try.prog W = .ok (.bool r) W := by
  have h := neq_agg (P := Try.prog) (W := W) (eql_lits 2 (by omega) (by kernel_rfl) (arp_form x) (arp_form y) (arp_lits x hx 0) (arp_lits y hy 0) (!r) (by rw [Arp.lits_inj]; cases r <;> simp_all) W)
  rwa [Bool.not_not] at h
theorem hd_form (x : Hd) : (Value.agg x.cs).formed Try.prog 29 = true := by
  have hc : Try.prog.cellsOf 29 = x.cs.size := by rw [Hd.size_cs]; kernel_rfl
  simp [Value.formed, Try.underlying29, hc]
theorem hd_eql (x y : Hd) (hx : x.ok) (hy : y.ok) (r : Bool) (hr : r = true ↔ x = y) (W : World) : (binOp .eql 29 (.agg x.cs) (.agg y.cs)).run Try.prog W = .ok (.bool r) W :=
  eql_agg (eql_lits 2 (by omega) (by kernel_rfl) (hd_form x) (hd_form y) (hd_lits x hx 0) (hd_lits y hy 0) r (hr.trans Hd.lits_inj.symm) W)
theorem hd_neq (x y : Hd) (hx : x.ok) (hy : y.ok) (r : Bool) (hr : r = true ↔ x ≠ y) (W : World) : (binOp .neq 29 (.agg x.cs) (.agg y.cs)).run Try.prog W = .ok (.bool r) W := by
  have h := neq_agg (P := Try.prog) (W := W) (eql_lits 2 (by omega) (by kernel_rfl) (hd_form x) (hd_form y) (hd_lits x hx 0) (hd_lits y hy 0) (!r) (by rw [Hd.lits_inj]; cases r <;> simp_all) W)
  rwa [Bool.not_not] at h
theorem fr_form (x : Fr) : (Value.agg x.cs).formed Try.prog 31 = true := by
  have hc : Try.prog.cellsOf 31 = x.cs.size := by rw [Fr.size_cs]; kernel_rfl
  simp [Value.formed, Try.underlying31, hc]
theorem fr_eql (x y : Fr) (hx : x.ok) (hy : y.ok) (r : Bool) (hr : r = true ↔ x = y) (W : World) : (binOp .eql 31 (.agg x.cs) (.agg y.cs)).run Try.prog W = .ok (.bool r) W :=
  eql_agg (eql_lits 3 (by omega) (by kernel_rfl) (fr_form x) (fr_form y) (fr_lits x hx 0) (fr_lits y hy 0) r (hr.trans Fr.lits_inj.symm) W)
theorem fr_neq (x y : Fr) (hx : x.ok) (hy : y.ok) (r : Bool) (hr : r = true ↔ x ≠ y) (W : World) : (binOp .neq 31 (.agg x.cs) (.agg y.cs)).run Try.prog W = .ok (.bool r) W := by
  have h := neq_agg (P := Try.prog) (W := W) (eql_lits 3 (by omega) (by kernel_rfl) (fr_form x) (fr_form y) (fr_lits x hx 0) (fr_lits y hy 0) (!r) (by rw [Fr.lits_inj]; cases r <;> simp_all) W)
  rwa [Bool.not_not] at h
theorem flt_form (x : Flt) : (Value.agg x.cs).formed Try.prog 43 = true := by
  have hc : Try.prog.cellsOf 43 = x.cs.size := by rw [Flt.size_cs]; kernel_rfl
  simp [Value.formed, Try.underlying43, hc]
theorem flt_eql (x y : Flt) (hx : x.ok) (hy : y.ok) (r : Bool) (hr : r = true ↔ x = y) (W : World) : (binOp .eql 43 (.agg x.cs) (.agg y.cs)).run Try.prog W = .ok (.bool r) W :=
  eql_agg (eql_lits 2 (by omega) (by kernel_rfl) (flt_form x) (flt_form y) (flt_lits x hx 0) (flt_lits y hy 0) r (hr.trans Flt.lits_inj.symm) W)
theorem flt_neq (x y : Flt) (hx : x.ok) (hy : y.ok) (r : Bool) (hr : r = true ↔ x ≠ y) (W : World) : (binOp .neq 43 (.agg x.cs) (.agg y.cs)).run Try.prog W = .ok (.bool r) W := by
  have h := neq_agg (P := Try.prog) (W := W) (eql_lits 2 (by omega) (by kernel_rfl) (flt_form x) (flt_form y) (flt_lits x hx 0) (flt_lits y hy 0) (!r) (by rw [Flt.lits_inj]; cases r <;> simp_all) W)
  rwa [Bool.not_not] at h
end Go.Proofs.Ytkplhmmajafflaa
