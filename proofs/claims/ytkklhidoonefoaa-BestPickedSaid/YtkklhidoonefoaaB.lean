import Derived.Test.YtkklhidoonefoaaA
import Derived.Test.YtkklhidoonefoaaData
import Derived.Test.YtkklhidoonefoaaTy
import Derived.Deep.DeepCutAuto
/- The contract of best.rank. -/
namespace Go.Proofs.Ytkklhidoonefoaa
open Go.RowKit
set_option linter.unusedSimpArgs false
set_option linter.unusedVariables false

structure Rt.ok (r : Rt) : Prop where
  peer0 : 0 ≤ r.peer
  peer1 : r.peer ≤ 4294967295
  med0 : 0 ≤ r.a.med
  med1 : r.a.med ≤ 4294967295
  pref0 : 0 ≤ r.a.pref
  pref1 : r.a.pref ≤ 4294967295
  orig0 : 0 ≤ r.a.orig
  orig1 : r.a.orig ≤ 4294967295

theorem alloc65 (w : World) : (Instr.alloc 65 true (.tuple #[])).run Try.prog w = .ok (.pointer (some ⟨w.heap.size, 0, none⟩)) (w.alloc (.cells #[.int .i64 0, .int .i64 0, .int .i64 0, .int .i64 0, .int .i64 0, .int .i64 0, .int .i64 0, .int .i64 0, .int .i64 0, .int .i64 0] 65)) := by kernel_rfl

def prefOf (r : Rt) : Int := if r.a.hasPref then -r.a.pref else -100
def medOf (r : Rt) : Int := if r.a.hasMed then r.a.med else 0
def nearOf (r : Rt) (l : List (Int × Int)) : Int := if r.peer = 0 then 0 else (metricOf r.a.next l).1
def origOf (r : Rt) : Int := if r.a.hasOrig then r.a.orig else r.peer

set_option maxRecDepth 100000 in
set_option maxHeartbeats 4000000 in
theorem rank_any (r : Rt) (l : List (Int × Int)) (A : Option Addr) (n cap : Nat) (w : World) (hH : Hops w A n l) (hr : r.ok) : 
   Calls Try.prog 28 #[.agg r.cs, .slice A n cap] w fun e w' => e = .returned (.agg #[.int .i64 (b2i r.stale), .int .i64 (prefOf r), .int .i64 r.a.path.n, .int .i64 r.a.origin, .int .i64 (medOf r), .int .i64 (b2i (r.peer != 0)), .int .i64 (nearOf r l), .int .i64 r.a.clus.n, .int .i64 (origOf r), .int .i64 r.peer]) ∧ Below w.heap.size w w' := by
  have HC := Lib.hid hH
  clear hH
  obtain ⟨p1, p2, m1, m2, f1, f2, o1, o2⟩ := hr
  go_enter Try.func28, Try.ntmps28
  go_wp2_with fail
  go_cut [6] (fun s6 wx => ∃ g x, s6 = .pointer (some ⟨g, 0, none⟩) ∧ w.heap.size + 3 ≤ g ∧ g < w.heap.size + 3 + x.tail.size ∧ wx = World.pin (World.ext (((w.alloc (.cells r.cs 40)).alloc (.cells #[.int .i64 0, .int .i64 0, .int .i64 0, .int .i64 0, .int .i64 0, .int .i64 0, .int .i64 0, .int .i64 0, .int .i64 0, .int .i64 0] 65)).alloc (.cells r.a.cs 38)) x) g #[.int .i64 (b2i r.stale), .int .i64 (-100), .int .i64 r.a.path.n, .int .i64 r.a.origin, .int .i64 0, .int .i64 (b2i (r.peer != 0)), .int .i64 0, .int .i64 r.a.clus.n, .int .i64 r.peer, .int .i64 r.peer] 65)
  case first =>
    refine wp_region_alloc1 23 22 6 65 _ _ _ (by kernel_rfl) (by kernel_rfl) rfl rfl rfl alloc65 ?_
    simp only [List.take_succ_cons, List.take_zero, selFrom, List.map_cons, List.map_nil, List.contains_cons, List.contains_nil, Nat.reduceBEq, Nat.reduceAdd, Nat.zero_add, Bool.or_false, Bool.false_eq_true, if_false, if_true, reduceIte, List.drop_succ_cons, List.drop_zero]
    apply Exists.intro
    refine ⟨fun x0 => ?_, ?_⟩
    · repeat (go_big_quiet_step ((go_at_call 47; exact quiet_call_same (bit_any _ _))))
      refine wpQuiet_nil rfl
    · intro g w1 hw hg hlt
      obtain ⟨x, rfl⟩ := hw
      simp only [ext_size, World.size_alloc] at hlt hg
      simp only [Act.put, List.setIfInBounds_toArray, List.set_cons_succ, List.set_cons_zero]
      go_wp2_with fail
      go_meet
      exact ⟨g, x, rfl, hg, by omega, rfl⟩
  case rest =>
    obtain ⟨g, x, rfl, hg, hlt, rfl⟩ := hcut
    have n0 : ¬ w.heap.size = g := by omega
    have n1 : ¬ w.heap.size + 1 = g := by omega
    have n2 : ¬ w.heap.size + 1 + 1 = g := by omega
    go_upto_if 32 with fail
    go_cut [] (fun wx => ∃ x, g < w.heap.size + 3 + x.tail.size ∧ wx = World.pin (World.ext (((w.alloc (.cells r.cs 40)).alloc (.cells #[.int .i64 0, .int .i64 0, .int .i64 0, .int .i64 0, .int .i64 0, .int .i64 0, .int .i64 0, .int .i64 0, .int .i64 0, .int .i64 0] 65)).alloc (.cells r.a.cs 38)) x) g #[.int .i64 (b2i r.stale), .int .i64 (prefOf r), .int .i64 r.a.path.n, .int .i64 r.a.origin, .int .i64 0, .int .i64 (b2i (r.peer != 0)), .int .i64 0, .int .i64 r.a.clus.n, .int .i64 r.peer, .int .i64 r.peer] 65)
    case first =>
      go_wp2_with fail
      all_goals (go_meet; exact ⟨x, hlt, by simp_all [prefOf]⟩)
    case rest =>
    obtain ⟨x, hlt, rfl⟩ := hcut
    go_upto_if 39 with fail
    go_cut [] (fun wx => ∃ x, g < w.heap.size + 3 + x.tail.size ∧ wx = World.pin (World.ext (((w.alloc (.cells r.cs 40)).alloc (.cells #[.int .i64 0, .int .i64 0, .int .i64 0, .int .i64 0, .int .i64 0, .int .i64 0, .int .i64 0, .int .i64 0, .int .i64 0, .int .i64 0] 65)).alloc (.cells r.a.cs 38)) x) g #[.int .i64 (b2i r.stale), .int .i64 (prefOf r), .int .i64 r.a.path.n, .int .i64 r.a.origin, .int .i64 (medOf r), .int .i64 (b2i (r.peer != 0)), .int .i64 0, .int .i64 r.a.clus.n, .int .i64 r.peer, .int .i64 r.peer] 65)
    case first =>
      go_wp2_with fail
      all_goals (go_meet; exact ⟨x, hlt, by simp_all [medOf]⟩)
    case rest =>
    obtain ⟨x, hlt, rfl⟩ := hcut
    go_upto_if 46 with fail
    go_cut [] (fun wx => ∃ x, g < w.heap.size + 3 + x.tail.size ∧ wx = World.pin (World.ext (((w.alloc (.cells r.cs 40)).alloc (.cells #[.int .i64 0, .int .i64 0, .int .i64 0, .int .i64 0, .int .i64 0, .int .i64 0, .int .i64 0, .int .i64 0, .int .i64 0, .int .i64 0] 65)).alloc (.cells r.a.cs 38)) x) g #[.int .i64 (b2i r.stale), .int .i64 (prefOf r), .int .i64 r.a.path.n, .int .i64 r.a.origin, .int .i64 (medOf r), .int .i64 (b2i (r.peer != 0)), .int .i64 (nearOf r l), .int .i64 r.a.clus.n, .int .i64 r.peer, .int .i64 r.peer] 65)
    case first =>
      go_wp2_with (go_at_call 31; refine (metric_any r.a.next l A n cap _ ?_).mono ?_; exact HC.out.below (pin_below _ _ _ _ (ext_below' ((((Below.refl _ _).alloc (Nat.le_refl _) _).alloc (by simp) _).alloc (by simp <;> omega) _) (by simp <;> omega) _) (by omega)); rintro e w1 ⟨rfl, hb⟩; obtain ⟨z, rfl, hz⟩ := pin_step _ _ _ _ hb (by simp <;> omega); have hl2 : g < w.heap.size + 3 + z.tail.size := by omega)
      · go_meet
        refine ⟨z, hl2, ?_⟩; rename_i hp; have hp' : (r.peer != 0) = true := by first | exact hp | simpa using hp
        simp only [nearOf, hp', if_neg (show ¬ r.peer = 0 by simpa using hp')]
      · go_meet
        exact ⟨x, hlt, by simp_all [nearOf]⟩
    case rest =>
    obtain ⟨x, hlt, rfl⟩ := hcut
    go_upto_if 56 with fail
    go_cut [] (fun wx => ∃ x, g < w.heap.size + 3 + x.tail.size ∧ wx = World.pin (World.ext (((w.alloc (.cells r.cs 40)).alloc (.cells #[.int .i64 0, .int .i64 0, .int .i64 0, .int .i64 0, .int .i64 0, .int .i64 0, .int .i64 0, .int .i64 0, .int .i64 0, .int .i64 0] 65)).alloc (.cells r.a.cs 38)) x) g #[.int .i64 (b2i r.stale), .int .i64 (prefOf r), .int .i64 r.a.path.n, .int .i64 r.a.origin, .int .i64 (medOf r), .int .i64 (b2i (r.peer != 0)), .int .i64 (nearOf r l), .int .i64 r.a.clus.n, .int .i64 (origOf r), .int .i64 r.peer] 65)
    case first =>
      go_wp2_with fail
      all_goals (go_meet; exact ⟨x, hlt, by simp_all [origOf]⟩)
    case rest =>
    obtain ⟨x, hlt, rfl⟩ := hcut
    go_wp2_with fail
    refine bodyPost_ret (v := .agg #[.int .i64 (b2i r.stale), .int .i64 (prefOf r), .int .i64 r.a.path.n, .int .i64 r.a.origin, .int .i64 (medOf r), .int .i64 (b2i (r.peer != 0)), .int .i64 (nearOf r l), .int .i64 r.a.clus.n, .int .i64 (origOf r), .int .i64 r.peer]) (by simp [results, Try.results28, go_sem, n1]) rfl ?_
    refine ⟨rfl, pin_below _ _ _ _ (ext_below' ((((Below.refl _ _).alloc (Nat.le_refl _) _).alloc (by simp) _).alloc (by simp <;> omega) _) (by simp <;> omega) _) (by omega)⟩
end Go.Proofs.Ytkklhidoonefoaa
