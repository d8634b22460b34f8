/- The data of a frame, as cells, and how they are read. No program in sight. -/
import Derived.Test.YtkplhmmajafflaaMem
namespace Go.Proofs.Ytkplhmmajafflaa
open Go.RowKit
set_option linter.unusedSimpArgs false
set_option linter.unusedVariables false
structure Sl where
  (a : Option Addr) (n c : Nat)
@[ext] structure Arp where
  op : Int
  sm : Int
  si : Int
  tm : Int
  ti : Int
def Arp.cs (x : Arp) : Array Value := #[.int .i64 x.op, .int .u64 x.sm, .int .u32 x.si, .int .u64 x.tm, .int .u32 x.ti]
@[simp, go_sem] theorem Arp.one (x : Arp) : OneAll x.cs.toList := by simp [Arp.cs]
@[simp, go_sem] theorem Arp.size_cs (x : Arp) : x.cs.size = 5 := by simp [Arp.cs]
@[go_sem] theorem Arp.fold (x : Arp) : (#[.int .i64 x.op, .int .u64 x.sm, .int .u32 x.si, .int .u64 x.tm, .int .u32 x.ti] : Array Value) = x.cs := by simp [Arp.cs]
@[simp, go_sem] theorem Arp.at0 (x : Arp) : x.cs[0]? = some (.int .i64 x.op) := by simp [Arp.cs]
@[simp, go_sem] theorem Arp.get0 (x : Arp) (h : 0 < x.cs.size) : x.cs[0] = .int .i64 x.op := by simp [Arp.cs]
@[go_sem] theorem Arp.set0 (x : Arp) (y : Int) : x.cs.setIfInBounds 0 (.int .i64 y) = Arp.cs { x with op := y } := by simp [Arp.cs]
@[go_sem] theorem Arp.set0' (x : Arp) (y : Int) (h : 0 < x.cs.size) : x.cs.set 0 (.int .i64 y) h = Arp.cs { x with op := y } := by simp [Arp.cs]
@[simp, go_sem] theorem Arp.at1 (x : Arp) : x.cs[1]? = some (.int .u64 x.sm) := by simp [Arp.cs]
@[simp, go_sem] theorem Arp.get1 (x : Arp) (h : 1 < x.cs.size) : x.cs[1] = .int .u64 x.sm := by simp [Arp.cs]
@[go_sem] theorem Arp.set1 (x : Arp) (y : Int) : x.cs.setIfInBounds 1 (.int .u64 y) = Arp.cs { x with sm := y } := by simp [Arp.cs]
@[go_sem] theorem Arp.set1' (x : Arp) (y : Int) (h : 1 < x.cs.size) : x.cs.set 1 (.int .u64 y) h = Arp.cs { x with sm := y } := by simp [Arp.cs]
@[simp, go_sem] theorem Arp.at2 (x : Arp) : x.cs[2]? = some (.int .u32 x.si) := by simp [Arp.cs]
@[simp, go_sem] theorem Arp.get2 (x : Arp) (h : 2 < x.cs.size) : x.cs[2] = .int .u32 x.si := by simp [Arp.cs]
@[go_sem] theorem Arp.set2 (x : Arp) (y : Int) : x.cs.setIfInBounds 2 (.int .u32 y) = Arp.cs { x with si := y } := by simp [Arp.cs]
@[go_sem] theorem Arp.set2' (x : Arp) (y : Int) (h : 2 < x.cs.size) : x.cs.set 2 (.int .u32 y) h = Arp.cs { x with si := y } := by simp [Arp.cs]
@[simp, go_sem] theorem Arp.at3 (x : Arp) : x.cs[3]? = some (.int .u64 x.tm) := by simp [Arp.cs]
@[simp, go_sem] theorem Arp.get3 (x : Arp) (h : 3 < x.cs.size) : x.cs[3] = .int .u64 x.tm := by simp [Arp.cs]
@[go_sem] theorem Arp.set3 (x : Arp) (y : Int) : x.cs.setIfInBounds 3 (.int .u64 y) = Arp.cs { x with tm := y } := by simp [Arp.cs]
@[go_sem] theorem Arp.set3' (x : Arp) (y : Int) (h : 3 < x.cs.size) : x.cs.set 3 (.int .u64 y) h = Arp.cs { x with tm := y } := by simp [Arp.cs]
@[simp, go_sem] theorem Arp.at4 (x : Arp) : x.cs[4]? = some (.int .u32 x.ti) := by simp [Arp.cs]
@[simp, go_sem] theorem Arp.get4 (x : Arp) (h : 4 < x.cs.size) : x.cs[4] = .int .u32 x.ti := by simp [Arp.cs]
@[go_sem] theorem Arp.set4 (x : Arp) (y : Int) : x.cs.setIfInBounds 4 (.int .u32 y) = Arp.cs { x with ti := y } := by simp [Arp.cs]
@[go_sem] theorem Arp.set4' (x : Arp) (y : Int) (h : 4 < x.cs.size) : x.cs.set 4 (.int .u32 y) h = Arp.cs { x with ti := y } := by simp [Arp.cs]
@[ext] structure Hd where
  src : Int
  dst : Int
  ttl : Int
  proto : Int
  sp : Int
  dp : Int
def Hd.cs (x : Hd) : Array Value := #[.int .u32 x.src, .int .u32 x.dst, .int .i64 x.ttl, .int .i64 x.proto, .int .i64 x.sp, .int .i64 x.dp]
@[simp, go_sem] theorem Hd.one (x : Hd) : OneAll x.cs.toList := by simp [Hd.cs]
@[simp, go_sem] theorem Hd.size_cs (x : Hd) : x.cs.size = 6 := by simp [Hd.cs]
@[go_sem] theorem Hd.fold (x : Hd) : (#[.int .u32 x.src, .int .u32 x.dst, .int .i64 x.ttl, .int .i64 x.proto, .int .i64 x.sp, .int .i64 x.dp] : Array Value) = x.cs := by simp [Hd.cs]
@[simp, go_sem] theorem Hd.at0 (x : Hd) : x.cs[0]? = some (.int .u32 x.src) := by simp [Hd.cs]
@[simp, go_sem] theorem Hd.get0 (x : Hd) (h : 0 < x.cs.size) : x.cs[0] = .int .u32 x.src := by simp [Hd.cs]
@[go_sem] theorem Hd.set0 (x : Hd) (y : Int) : x.cs.setIfInBounds 0 (.int .u32 y) = Hd.cs { x with src := y } := by simp [Hd.cs]
@[go_sem] theorem Hd.set0' (x : Hd) (y : Int) (h : 0 < x.cs.size) : x.cs.set 0 (.int .u32 y) h = Hd.cs { x with src := y } := by simp [Hd.cs]
@[simp, go_sem] theorem Hd.at1 (x : Hd) : x.cs[1]? = some (.int .u32 x.dst) := by simp [Hd.cs]
@[simp, go_sem] theorem Hd.get1 (x : Hd) (h : 1 < x.cs.size) : x.cs[1] = .int .u32 x.dst := by simp [Hd.cs]
@[go_sem] theorem Hd.set1 (x : Hd) (y : Int) : x.cs.setIfInBounds 1 (.int .u32 y) = Hd.cs { x with dst := y } := by simp [Hd.cs]
@[go_sem] theorem Hd.set1' (x : Hd) (y : Int) (h : 1 < x.cs.size) : x.cs.set 1 (.int .u32 y) h = Hd.cs { x with dst := y } := by simp [Hd.cs]
@[simp, go_sem] theorem Hd.at2 (x : Hd) : x.cs[2]? = some (.int .i64 x.ttl) := by simp [Hd.cs]
@[simp, go_sem] theorem Hd.get2 (x : Hd) (h : 2 < x.cs.size) : x.cs[2] = .int .i64 x.ttl := by simp [Hd.cs]
@[go_sem] theorem Hd.set2 (x : Hd) (y : Int) : x.cs.setIfInBounds 2 (.int .i64 y) = Hd.cs { x with ttl := y } := by simp [Hd.cs]
@[go_sem] theorem Hd.set2' (x : Hd) (y : Int) (h : 2 < x.cs.size) : x.cs.set 2 (.int .i64 y) h = Hd.cs { x with ttl := y } := by simp [Hd.cs]
@[simp, go_sem] theorem Hd.at3 (x : Hd) : x.cs[3]? = some (.int .i64 x.proto) := by simp [Hd.cs]
@[simp, go_sem] theorem Hd.get3 (x : Hd) (h : 3 < x.cs.size) : x.cs[3] = .int .i64 x.proto := by simp [Hd.cs]
@[go_sem] theorem Hd.set3 (x : Hd) (y : Int) : x.cs.setIfInBounds 3 (.int .i64 y) = Hd.cs { x with proto := y } := by simp [Hd.cs]
@[go_sem] theorem Hd.set3' (x : Hd) (y : Int) (h : 3 < x.cs.size) : x.cs.set 3 (.int .i64 y) h = Hd.cs { x with proto := y } := by simp [Hd.cs]
@[simp, go_sem] theorem Hd.at4 (x : Hd) : x.cs[4]? = some (.int .i64 x.sp) := by simp [Hd.cs]
@[simp, go_sem] theorem Hd.get4 (x : Hd) (h : 4 < x.cs.size) : x.cs[4] = .int .i64 x.sp := by simp [Hd.cs]
@[go_sem] theorem Hd.set4 (x : Hd) (y : Int) : x.cs.setIfInBounds 4 (.int .i64 y) = Hd.cs { x with sp := y } := by simp [Hd.cs]
@[go_sem] theorem Hd.set4' (x : Hd) (y : Int) (h : 4 < x.cs.size) : x.cs.set 4 (.int .i64 y) h = Hd.cs { x with sp := y } := by simp [Hd.cs]
@[simp, go_sem] theorem Hd.at5 (x : Hd) : x.cs[5]? = some (.int .i64 x.dp) := by simp [Hd.cs]
@[simp, go_sem] theorem Hd.get5 (x : Hd) (h : 5 < x.cs.size) : x.cs[5] = .int .i64 x.dp := by simp [Hd.cs]
@[go_sem] theorem Hd.set5 (x : Hd) (y : Int) : x.cs.setIfInBounds 5 (.int .i64 y) = Hd.cs { x with dp := y } := by simp [Hd.cs]
@[go_sem] theorem Hd.set5' (x : Hd) (y : Int) (h : 5 < x.cs.size) : x.cs.set 5 (.int .i64 y) h = Hd.cs { x with dp := y } := by simp [Hd.cs]
@[ext] structure Fr where
  src : Int
  dst : Int
  kind : Int
  arp : Arp
  ip : Hd
  data : Int
def Fr.cs (x : Fr) : Array Value := #[.int .u64 x.src, .int .u64 x.dst, .int .i64 x.kind, .int .i64 x.arp.op, .int .u64 x.arp.sm, .int .u32 x.arp.si, .int .u64 x.arp.tm, .int .u32 x.arp.ti, .int .u32 x.ip.src, .int .u32 x.ip.dst, .int .i64 x.ip.ttl, .int .i64 x.ip.proto, .int .i64 x.ip.sp, .int .i64 x.ip.dp, .int .u64 x.data]
@[simp, go_sem] theorem Fr.one (x : Fr) : OneAll x.cs.toList := by simp [Fr.cs]
@[simp, go_sem] theorem Fr.size_cs (x : Fr) : x.cs.size = 15 := by simp [Fr.cs]
@[go_sem] theorem Fr.fold (x : Fr) : (#[.int .u64 x.src, .int .u64 x.dst, .int .i64 x.kind, .int .i64 x.arp.op, .int .u64 x.arp.sm, .int .u32 x.arp.si, .int .u64 x.arp.tm, .int .u32 x.arp.ti, .int .u32 x.ip.src, .int .u32 x.ip.dst, .int .i64 x.ip.ttl, .int .i64 x.ip.proto, .int .i64 x.ip.sp, .int .i64 x.ip.dp, .int .u64 x.data] : Array Value) = x.cs := by simp [Fr.cs]
@[simp, go_sem] theorem Fr.at0 (x : Fr) : x.cs[0]? = some (.int .u64 x.src) := by simp [Fr.cs]
@[simp, go_sem] theorem Fr.get0 (x : Fr) (h : 0 < x.cs.size) : x.cs[0] = .int .u64 x.src := by simp [Fr.cs]
@[go_sem] theorem Fr.set0 (x : Fr) (y : Int) : x.cs.setIfInBounds 0 (.int .u64 y) = Fr.cs { x with src := y } := by simp [Fr.cs]
@[go_sem] theorem Fr.set0' (x : Fr) (y : Int) (h : 0 < x.cs.size) : x.cs.set 0 (.int .u64 y) h = Fr.cs { x with src := y } := by simp [Fr.cs]
@[simp, go_sem] theorem Fr.at1 (x : Fr) : x.cs[1]? = some (.int .u64 x.dst) := by simp [Fr.cs]
@[simp, go_sem] theorem Fr.get1 (x : Fr) (h : 1 < x.cs.size) : x.cs[1] = .int .u64 x.dst := by simp [Fr.cs]
@[go_sem] theorem Fr.set1 (x : Fr) (y : Int) : x.cs.setIfInBounds 1 (.int .u64 y) = Fr.cs { x with dst := y } := by simp [Fr.cs]
@[go_sem] theorem Fr.set1' (x : Fr) (y : Int) (h : 1 < x.cs.size) : x.cs.set 1 (.int .u64 y) h = Fr.cs { x with dst := y } := by simp [Fr.cs]
@[simp, go_sem] theorem Fr.at2 (x : Fr) : x.cs[2]? = some (.int .i64 x.kind) := by simp [Fr.cs]
@[simp, go_sem] theorem Fr.get2 (x : Fr) (h : 2 < x.cs.size) : x.cs[2] = .int .i64 x.kind := by simp [Fr.cs]
@[go_sem] theorem Fr.set2 (x : Fr) (y : Int) : x.cs.setIfInBounds 2 (.int .i64 y) = Fr.cs { x with kind := y } := by simp [Fr.cs]
@[go_sem] theorem Fr.set2' (x : Fr) (y : Int) (h : 2 < x.cs.size) : x.cs.set 2 (.int .i64 y) h = Fr.cs { x with kind := y } := by simp [Fr.cs]
@[simp, go_sem] theorem Fr.at3 (x : Fr) : x.cs[3]? = some (.int .i64 x.arp.op) := by simp [Fr.cs]
@[simp, go_sem] theorem Fr.get3 (x : Fr) (h : 3 < x.cs.size) : x.cs[3] = .int .i64 x.arp.op := by simp [Fr.cs]
@[go_sem] theorem Fr.set3 (x : Fr) (y : Int) : x.cs.setIfInBounds 3 (.int .i64 y) = Fr.cs { x with arp := { x.arp with op := y } } := by simp [Fr.cs]
@[go_sem] theorem Fr.set3' (x : Fr) (y : Int) (h : 3 < x.cs.size) : x.cs.set 3 (.int .i64 y) h = Fr.cs { x with arp := { x.arp with op := y } } := by simp [Fr.cs]
@[simp, go_sem] theorem Fr.at4 (x : Fr) : x.cs[4]? = some (.int .u64 x.arp.sm) := by simp [Fr.cs]
@[simp, go_sem] theorem Fr.get4 (x : Fr) (h : 4 < x.cs.size) : x.cs[4] = .int .u64 x.arp.sm := by simp [Fr.cs]
@[go_sem] theorem Fr.set4 (x : Fr) (y : Int) : x.cs.setIfInBounds 4 (.int .u64 y) = Fr.cs { x with arp := { x.arp with sm := y } } := by simp [Fr.cs]
@[go_sem] theorem Fr.set4' (x : Fr) (y : Int) (h : 4 < x.cs.size) : x.cs.set 4 (.int .u64 y) h = Fr.cs { x with arp := { x.arp with sm := y } } := by simp [Fr.cs]
@[simp, go_sem] theorem Fr.at5 (x : Fr) : x.cs[5]? = some (.int .u32 x.arp.si) := by simp [Fr.cs]
@[simp, go_sem] theorem Fr.get5 (x : Fr) (h : 5 < x.cs.size) : x.cs[5] = .int .u32 x.arp.si := by simp [Fr.cs]
@[go_sem] theorem Fr.set5 (x : Fr) (y : Int) : x.cs.setIfInBounds 5 (.int .u32 y) = Fr.cs { x with arp := { x.arp with si := y } } := by simp [Fr.cs]
@[go_sem] theorem Fr.set5' (x : Fr) (y : Int) (h : 5 < x.cs.size) : x.cs.set 5 (.int .u32 y) h = Fr.cs { x with arp := { x.arp with si := y } } := by simp [Fr.cs]
@[simp, go_sem] theorem Fr.at6 (x : Fr) : x.cs[6]? = some (.int .u64 x.arp.tm) := by simp [Fr.cs]
@[simp, go_sem] theorem Fr.get6 (x : Fr) (h : 6 < x.cs.size) : x.cs[6] = .int .u64 x.arp.tm := by simp [Fr.cs]
@[go_sem] theorem Fr.set6 (x : Fr) (y : Int) : x.cs.setIfInBounds 6 (.int .u64 y) = Fr.cs { x with arp := { x.arp with tm := y } } := by simp [Fr.cs]
@[go_sem] theorem Fr.set6' (x : Fr) (y : Int) (h : 6 < x.cs.size) : x.cs.set 6 (.int .u64 y) h = Fr.cs { x with arp := { x.arp with tm := y } } := by simp [Fr.cs]
@[simp, go_sem] theorem Fr.at7 (x : Fr) : x.cs[7]? = some (.int .u32 x.arp.ti) := by simp [Fr.cs]
@[simp, go_sem] theorem Fr.get7 (x : Fr) (h : 7 < x.cs.size) : x.cs[7] = .int .u32 x.arp.ti := by simp [Fr.cs]
@[go_sem] theorem Fr.set7 (x : Fr) (y : Int) : x.cs.setIfInBounds 7 (.int .u32 y) = Fr.cs { x with arp := { x.arp with ti := y } } := by simp [Fr.cs]
@[go_sem] theorem Fr.set7' (x : Fr) (y : Int) (h : 7 < x.cs.size) : x.cs.set 7 (.int .u32 y) h = Fr.cs { x with arp := { x.arp with ti := y } } := by simp [Fr.cs]
@[simp, go_sem] theorem Fr.at8 (x : Fr) : x.cs[8]? = some (.int .u32 x.ip.src) := by simp [Fr.cs]
@[simp, go_sem] theorem Fr.get8 (x : Fr) (h : 8 < x.cs.size) : x.cs[8] = .int .u32 x.ip.src := by simp [Fr.cs]
@[go_sem] theorem Fr.set8 (x : Fr) (y : Int) : x.cs.setIfInBounds 8 (.int .u32 y) = Fr.cs { x with ip := { x.ip with src := y } } := by simp [Fr.cs]
@[go_sem] theorem Fr.set8' (x : Fr) (y : Int) (h : 8 < x.cs.size) : x.cs.set 8 (.int .u32 y) h = Fr.cs { x with ip := { x.ip with src := y } } := by simp [Fr.cs]
@[simp, go_sem] theorem Fr.at9 (x : Fr) : x.cs[9]? = some (.int .u32 x.ip.dst) := by simp [Fr.cs]
@[simp, go_sem] theorem Fr.get9 (x : Fr) (h : 9 < x.cs.size) : x.cs[9] = .int .u32 x.ip.dst := by simp [Fr.cs]
@[go_sem] theorem Fr.set9 (x : Fr) (y : Int) : x.cs.setIfInBounds 9 (.int .u32 y) = Fr.cs { x with ip := { x.ip with dst := y } } := by simp [Fr.cs]
@[go_sem] theorem Fr.set9' (x : Fr) (y : Int) (h : 9 < x.cs.size) : x.cs.set 9 (.int .u32 y) h = Fr.cs { x with ip := { x.ip with dst := y } } := by simp [Fr.cs]
@[simp, go_sem] theorem Fr.at10 (x : Fr) : x.cs[10]? = some (.int .i64 x.ip.ttl) := by simp [Fr.cs]
@[simp, go_sem] theorem Fr.get10 (x : Fr) (h : 10 < x.cs.size) : x.cs[10] = .int .i64 x.ip.ttl := by simp [Fr.cs]
@[go_sem] theorem Fr.set10 (x : Fr) (y : Int) : x.cs.setIfInBounds 10 (.int .i64 y) = Fr.cs { x with ip := { x.ip with ttl := y } } := by simp [Fr.cs]
@[go_sem] theorem Fr.set10' (x : Fr) (y : Int) (h : 10 < x.cs.size) : x.cs.set 10 (.int .i64 y) h = Fr.cs { x with ip := { x.ip with ttl := y } } := by simp [Fr.cs]
@[simp, go_sem] theorem Fr.at11 (x : Fr) : x.cs[11]? = some (.int .i64 x.ip.proto) := by simp [Fr.cs]
@[simp, go_sem] theorem Fr.get11 (x : Fr) (h : 11 < x.cs.size) : x.cs[11] = .int .i64 x.ip.proto := by simp [Fr.cs]
@[go_sem] theorem Fr.set11 (x : Fr) (y : Int) : x.cs.setIfInBounds 11 (.int .i64 y) = Fr.cs { x with ip := { x.ip with proto := y } } := by simp [Fr.cs]
@[go_sem] theorem Fr.set11' (x : Fr) (y : Int) (h : 11 < x.cs.size) : x.cs.set 11 (.int .i64 y) h = Fr.cs { x with ip := { x.ip with proto := y } } := by simp [Fr.cs]
@[simp, go_sem] theorem Fr.at12 (x : Fr) : x.cs[12]? = some (.int .i64 x.ip.sp) := by simp [Fr.cs]
@[simp, go_sem] theorem Fr.get12 (x : Fr) (h : 12 < x.cs.size) : x.cs[12] = .int .i64 x.ip.sp := by simp [Fr.cs]
@[go_sem] theorem Fr.set12 (x : Fr) (y : Int) : x.cs.setIfInBounds 12 (.int .i64 y) = Fr.cs { x with ip := { x.ip with sp := y } } := by simp [Fr.cs]
@[go_sem] theorem Fr.set12' (x : Fr) (y : Int) (h : 12 < x.cs.size) : x.cs.set 12 (.int .i64 y) h = Fr.cs { x with ip := { x.ip with sp := y } } := by simp [Fr.cs]
@[simp, go_sem] theorem Fr.at13 (x : Fr) : x.cs[13]? = some (.int .i64 x.ip.dp) := by simp [Fr.cs]
@[simp, go_sem] theorem Fr.get13 (x : Fr) (h : 13 < x.cs.size) : x.cs[13] = .int .i64 x.ip.dp := by simp [Fr.cs]
@[go_sem] theorem Fr.set13 (x : Fr) (y : Int) : x.cs.setIfInBounds 13 (.int .i64 y) = Fr.cs { x with ip := { x.ip with dp := y } } := by simp [Fr.cs]
@[go_sem] theorem Fr.set13' (x : Fr) (y : Int) (h : 13 < x.cs.size) : x.cs.set 13 (.int .i64 y) h = Fr.cs { x with ip := { x.ip with dp := y } } := by simp [Fr.cs]
@[simp, go_sem] theorem Fr.at14 (x : Fr) : x.cs[14]? = some (.int .u64 x.data) := by simp [Fr.cs]
@[simp, go_sem] theorem Fr.get14 (x : Fr) (h : 14 < x.cs.size) : x.cs[14] = .int .u64 x.data := by simp [Fr.cs]
@[go_sem] theorem Fr.set14 (x : Fr) (y : Int) : x.cs.setIfInBounds 14 (.int .u64 y) = Fr.cs { x with data := y } := by simp [Fr.cs]
@[go_sem] theorem Fr.set14' (x : Fr) (y : Int) (h : 14 < x.cs.size) : x.cs.set 14 (.int .u64 y) h = Fr.cs { x with data := y } := by simp [Fr.cs]
@[go_sem] theorem Fr.sub_arp (x : Fr) : sub? x.cs 3 5 = some x.arp.cs := by simp [sub?, Fr.cs, Arp.cs]
@[go_sem] theorem Fr.splice_arp (x : Fr) (y : Arp) : splice x.cs 3 y.cs = Fr.cs { x with arp := y } := by simp [splice, Fr.cs, Arp.cs]
@[go_sem] theorem Fr.sub_ip (x : Fr) : sub? x.cs 8 6 = some x.ip.cs := by simp [sub?, Fr.cs, Hd.cs]
@[go_sem] theorem Fr.splice_ip (x : Fr) (y : Hd) : splice x.cs 8 y.cs = Fr.cs { x with ip := y } := by simp [splice, Fr.cs, Hd.cs]
@[ext] structure Flt where
  err : Int
  pos : Int
def Flt.cs (x : Flt) : Array Value := #[.int .i64 x.err, .int .i64 x.pos]
@[simp, go_sem] theorem Flt.one (x : Flt) : OneAll x.cs.toList := by simp [Flt.cs]
@[simp, go_sem] theorem Flt.size_cs (x : Flt) : x.cs.size = 2 := by simp [Flt.cs]
@[go_sem] theorem Flt.fold (x : Flt) : (#[.int .i64 x.err, .int .i64 x.pos] : Array Value) = x.cs := by simp [Flt.cs]
@[simp, go_sem] theorem Flt.at0 (x : Flt) : x.cs[0]? = some (.int .i64 x.err) := by simp [Flt.cs]
@[simp, go_sem] theorem Flt.get0 (x : Flt) (h : 0 < x.cs.size) : x.cs[0] = .int .i64 x.err := by simp [Flt.cs]
@[go_sem] theorem Flt.set0 (x : Flt) (y : Int) : x.cs.setIfInBounds 0 (.int .i64 y) = Flt.cs { x with err := y } := by simp [Flt.cs]
@[go_sem] theorem Flt.set0' (x : Flt) (y : Int) (h : 0 < x.cs.size) : x.cs.set 0 (.int .i64 y) h = Flt.cs { x with err := y } := by simp [Flt.cs]
@[simp, go_sem] theorem Flt.at1 (x : Flt) : x.cs[1]? = some (.int .i64 x.pos) := by simp [Flt.cs]
@[simp, go_sem] theorem Flt.get1 (x : Flt) (h : 1 < x.cs.size) : x.cs[1] = .int .i64 x.pos := by simp [Flt.cs]
@[go_sem] theorem Flt.set1 (x : Flt) (y : Int) : x.cs.setIfInBounds 1 (.int .i64 y) = Flt.cs { x with pos := y } := by simp [Flt.cs]
@[go_sem] theorem Flt.set1' (x : Flt) (y : Int) (h : 1 < x.cs.size) : x.cs.set 1 (.int .i64 y) h = Flt.cs { x with pos := y } := by simp [Flt.cs]

end Go.Proofs.Ytkplhmmajafflaa
