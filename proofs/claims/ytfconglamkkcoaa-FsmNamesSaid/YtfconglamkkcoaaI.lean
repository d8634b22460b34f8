import Derived.Test.YtfconglamkkcoaaH
import Derived.Maps.OwnSet
import Derived.Maps.Views
/- What happens in each phase, looked up. -/
namespace Go.Proofs.Ytfconglamkkcoaa
open Go.RowKit Go.Maps
set_option linter.unusedSimpArgs false
set_option linter.unusedVariables false

theorem wpList_insert_own {H : Type} {P : Program} (w : World) {ops : Array Oper} {rest : List Oper} {o : Oper} {a : Go.Act} {Q : Exit → Go.Act → World → Prop}
    (hg : o.guard = none) (m x v : Operand) (t : TypeId) (hop : o.op = Op.insert t m x v)
    (k e : TypeId) (K : Keyed P k) (ht : P.underlying t = some (.map k e)) (R : Value → Option (DataW H × List MemPlace)) (b n : Nat) (D : DataW H)
    (hm : a.eval m = .map (some b)) (hown : w.ownsMap P k R b n D) (hn : n < maxLen) (key val : Value) (kl : Lit) (hx : a.eval x = key) (hv : a.eval v = val) (hkey : keyOf P k key = some kl)
    (d : DataW H) (ps : List MemPlace) (hval : R val = some (d, ps))
    (hK : ∀ w', w'.ownsMap P k R b (n + 1) (D.put kl d) → w.grownBy w' (some b) → wpList P ops Q rest (a.put o.dst undef) w') :
    wpList P ops Q (o :: rest) a w := by
  refine wpList_plain hg fun K' hK' => ?_
  obtain ⟨w', hrun, r1, r2⟩ := hown.update K ht hn hkey hval
  unfold Oper.wp
  simp [execOp, hop, hm, hx, hv, hrun, Result.andThen]
  exact hK' _ _ (hK w' r1 r2)
theorem keyI : Keyed Try.prog 3 := int_keyed Try.underlying3
theorem wfi {n : Int} (h1 : -9223372036854775808 ≤ n) (h2 : n ≤ 9223372036854775807) : (Lit.int .i64 n).wf = true := WalkArith.wf_i64 ⟨h1, h2⟩
/-- How a function reads: by its number. -/
def readF : Value → Option (DataW Unit × List MemPlace)
  | .func (.func f) c b => if c.size = 0 ∧ b.size = 0 then some (.lit (.int .i64 f), []) else none
  | .nilFunc => some (.nil, [])
  | _ => none
theorem readF_inv {v : Value} {f : Nat} {ps : List MemPlace} (h : readF v = some (.lit (.int .i64 (f : Nat)), ps)) : v = .func (.func f) #[] #[] := by
  unfold readF at h
  split at h
  · rename_i g c b
    split at h
    · rename_i hc
      simp only [Option.some.injEq, Prod.mk.injEq, DataW.lit.injEq, Lit.int.injEq, true_and] at h
      have hgf : g = f := Int.ofNat_inj.1 h.1
      subst hgf
      have h1 : c = #[] := Array.size_eq_zero_iff.1 hc.1
      have h2 : b = #[] := Array.size_eq_zero_iff.1 hc.2
      rw [h1, h2]
    · cases h
  · simp at h
  · cases h
def ilit (n : Int) : Lit := .int .i64 n
def phD : DataW Unit := (((((DataW.map []).put (ilit 0) (.lit (ilit 47))).put (ilit 1) (.lit (ilit 48))).put (ilit 2) (.lit (ilit 49))).put (ilit 3) (.lit (ilit 49))).put (ilit 4) (.lit (ilit 49))
set_option maxRecDepth 100000 in
theorem phases_any (W : World) : Calls Try.prog 29 #[] W fun e w' => ∃ m, e = .returned (.map (some m)) ∧ w'.ownsMap Try.prog 3 readF m 5 phD ∧ Below W.heap.size W w' := by
  have hmm := @run_makeMap Try.prog
  have h0 := World.ownsMap_made W Try.prog 3 readF
  have hb0 : Below W.heap.size W (W.alloc (.map #[] 0)) := (Below.refl _ _).alloc (Nat.le_refl _) _
  have hk : ∀ n : Int, 0 ≤ n → n ≤ 4 → keyOf Try.prog 3 (.int .i64 n) = some (ilit n) := fun n h1 h2 => keyOf_int_mk Try.underlying3 (wfi (by omega) (by omega))
  obtain ⟨w1, r1, o1, g1⟩ := h0.update keyI Try.underlying80 (by unfold maxLen; omega) (hk 0 (by omega) (by omega)) (val := .func (.func 47) #[] #[]) (d := .lit (ilit 47)) (ps := []) rfl
  obtain ⟨w2, r2, o2, g2⟩ := o1.update keyI Try.underlying80 (by unfold maxLen; omega) (hk 1 (by omega) (by omega)) (val := .func (.func 48) #[] #[]) (d := .lit (ilit 48)) (ps := []) rfl
  obtain ⟨w3, r3, o3, g3⟩ := o2.update keyI Try.underlying80 (by unfold maxLen; omega) (hk 2 (by omega) (by omega)) (val := .func (.func 49) #[] #[]) (d := .lit (ilit 49)) (ps := []) rfl
  obtain ⟨w4, r4, o4, g4⟩ := o3.update keyI Try.underlying80 (by unfold maxLen; omega) (hk 3 (by omega) (by omega)) (val := .func (.func 49) #[] #[]) (d := .lit (ilit 49)) (ps := []) rfl
  obtain ⟨w5, r5, o5, g5⟩ := o4.update keyI Try.underlying80 (by unfold maxLen; omega) (hk 4 (by omega) (by omega)) (val := .func (.func 49) #[] #[]) (d := .lit (ilit 49)) (ps := []) rfl
  have hg : ∀ {w w' : World}, Below W.heap.size W w → w.grownBy w' (some W.heap.size) → Below W.heap.size W w' := fun h g => h.grown g h.size (fun k hk => by simp at hk; omega)
  have HB := Lib.hid (hg (hg (hg (hg (hg hb0 g1) g2) g3) g4) g5)
  have HO := Lib.hid o5
  clear h0 hb0 hk o1 o2 o3 o4 o5 g1 g2 g3 g4 g5 hg
  go_enter Try.func29, Try.ntmps29
  go_wp2_with fail
  go_ret
  exact ⟨_, rfl, HO.out, HB.out⟩
theorem phD_at {p : Int} (h0 : 0 ≤ p) (h1 : p ≤ 4) (z : DataW Unit) : phD.atKey (ilit p) z = .lit (ilit (if p = 0 then 47 else if p = 1 then 48 else 49)) := by
  have hc : p = 0 ∨ p = 1 ∨ p = 2 ∨ p = 3 ∨ p = 4 := by omega
  rcases hc with rfl | rfl | rfl | rfl | rfl <;> rfl
/-- The function of a phase. -/
theorem phase_run {w : World} {m : Nat} (h : w.ownsMap Try.prog 3 readF m 5 phD) {p : Int} (h0 : 0 ≤ p) (h1 : p ≤ 4) {f : Nat} (hf : (if p = 0 then 47 else if p = 1 then 48 else 49 : Int) = f) :
    (Instr.lookup 80 (.map (some m)) (.int .i64 p) false).run Try.prog w = .ok (.func (.func f) #[] #[]) w := by
  obtain ⟨v, ps, hrun, hv⟩ := h.lookup keyI Try.underlying80 (z := .nilFunc) (by kernel_rfl) (zd := .nil) (zp := []) rfl (keyOf_int_mk Try.underlying3 (wfi (show -9223372036854775808 ≤ p by omega) (by omega)))
  change readF v = some (phD.atKey (ilit p) .nil, ps) at hv
  rw [phD_at h0 h1, hf] at hv
  rw [readF_inv hv] at hrun
  exact hrun
end Go.Proofs.Ytfconglamkkcoaa
