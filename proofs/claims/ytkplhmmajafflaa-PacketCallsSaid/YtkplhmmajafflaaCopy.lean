import Derived.Test.YtkplhmmajafflaaOnly
import Derived.Laws.CopyRow
import Derived.Laws.IdiomCopy
import Derived.OwnWalkIn
/- The builtin copy, into a block that is known whole. No program in sight. -/
namespace Go.Proofs.Ytkplhmmajafflaa
open Go.RowKit
set_option linter.unusedSimpArgs false
set_option linter.unusedVariables false

/-- A list with a piece written anew. -/
def over (cur : List Value) (off : Nat) (cs : List Value) : List Value := cur.take off ++ (cs ++ cur.drop (off + cs.length))
section
variable {P : Program} (w : World) (dT sT ty e : TypeId) (hu : P.underlying dT = some (.slice e)) (hsz : (P.info? e).map (·.size) = some 1)
    (g off dLen dCap : Nat) (A : Option Addr) (sLen sCap : Nat) (cur : List Value) (t : TypeId) (hg : w.heap[g]? = some (.cells cur.toArray t (0, 0))) (cs : List Value) (hn : cs.length = min sLen dLen) (hs : Held w A cs)
    (hfit : off + cs.length ≤ cur.length) (h1 : ∀ v ∈ cs, v.oneCell' = true)
include hu hsz hg hn hs hfit h1
theorem run_copy_known : ∃ w', (Builtin.copy_ #[dT, sT] ty #[.slice (some ⟨g, off, none⟩) dLen dCap, .slice A sLen sCap]).run P w = .ok (goInt cs.length) w' ∧ w'.heap[g]? = some (.cells (over cur off cs).toArray t (0, 0)) ∧ Only [g] w w' := by
  by_cases h0 : cs.length = 0
  · obtain rfl : cs = [] := List.eq_nil_of_length_eq_zero h0
    refine ⟨w, run_copy_none w dT sT ty e _ A dLen dCap sLen sCap hu hsz (by have := hn; simp only [List.length_nil] at this; exact this.symm), ?_, Only.refl _ _⟩
    simpa [over] using hg
  · obtain ⟨b, o, rfl, _, hc⟩ := hs (by omega)
    have hadd : ∀ j, Addr.add ⟨b, o, none⟩ j = ⟨b, o + j, none⟩ := fun j => by unfold Addr.add; split <;> simp_all
    refine ⟨_, run_copy_row P w dT sT ty e g off dLen dCap ⟨b, o, none⟩ sLen sCap cur.toArray t cs hu hsz hg hn (fun j v hj => by rw [hadd]; exact hc j v hj) (by simpa using hfit) h1, ?_, ⟨rfl, rfl, rfl, by simp [World.setRow], fun k hk hne => setRow_other w g k _ (by simpa using hne)⟩⟩
    have := setRow_heap w g cur.toArray (cur.take off ++ cs ++ cur.drop (off + cs.length)).toArray t (0, 0) hg
    simpa [over] using this
theorem wpList_copy_known {ops : Array Oper} {rest : List Oper} {o : Oper} {a : Act} {Q : Exit → Act → World → Prop} (hgd : o.guard = none) (d s : Operand)
    (ho : o.op = .call { callee := .builtin .copy, args := #[d, s], argTypes := #[dT, sT] }) (hd : a.eval d = .slice (some ⟨g, off, none⟩) dLen dCap) (hse : a.eval s = .slice A sLen sCap)
    (h : ∀ w', w'.heap[g]? = some (.cells (over cur off cs).toArray t (0, 0)) → Only [g] w w' → wpList P ops Q rest (a.put o.dst (goInt cs.length)) w') : wpList P ops Q (o :: rest) a w := by
  obtain ⟨w', hrun, h2, h3⟩ := run_copy_known (P := P) w dT sT o.type e hu hsz g off dLen dCap A sLen sCap cur t hg cs hn hs hfit h1
  refine wpList_plain hgd fun K hK => ?_
  unfold Oper.wp
  simp [execOp, ho, resolve, invoke, builtin, hd, hse, hrun, Result.andThen]
  exact hK _ _ (h w' h2 h3)
theorem wpListIn_copy_known {F : Fence} {n : Nat} {ops : Array Oper} {rest : List Oper} {o : Oper} {a : Act} {Q : Exit → Act → World → Prop} (hgd : o.guard = none) (d s : Operand)
    (ho : o.op = .call { callee := .builtin .copy, args := #[d, s], argTypes := #[dT, sT] }) (hd : a.eval d = .slice (some ⟨g, off, none⟩) dLen dCap) (hse : a.eval s = .slice A sLen sCap)
    (h : ∀ w', w'.heap[g]? = some (.cells (over cur off cs).toArray t (0, 0)) → Only [g] w w' → wpListIn F n P ops Q rest (a.put o.dst (goInt cs.length)) w') : wpListIn F n P ops Q (o :: rest) a w := by
  obtain ⟨w', hrun, h2, h3⟩ := run_copy_known (P := P) w dT sT o.type e hu hsz g off dLen dCap A sLen sCap cur t hg cs hn hs hfit h1
  refine wpListIn_plain hgd fun K hK => ?_
  unfold Oper.wpIn
  refine ⟨?_, ?_⟩
  · simp [Oper.about, ho, resolve, Target.leads, Sem.run_pure]
  · rw [Oper.semAt_plain F _ _ (by rw [ho]; intro c hc'; cases hc')]
    simp [execOp, ho, resolve, invoke, builtin, hd, hse, hrun, Result.andThen]
    exact hK _ _ (h w' h2 h3)
theorem step_copy_known {ops : Array Oper} {o : Oper} {a : Act} {K : Act → World → Prop} {Q : Exit → Act → World → Prop} {E : Prop} (hgd : o.guard = none) (d s : Operand)
    (ho : o.op = .call { callee := .builtin .copy, args := #[d, s], argTypes := #[dT, sT] }) (hd : a.eval d = .slice (some ⟨g, off, none⟩) dLen dCap) (hse : a.eval s = .slice A sLen sCap)
    (h : ∀ w', w'.heap[g]? = some (.cells (over cur off cs).toArray t (0, 0)) → Only [g] w w' → K (a.put o.dst (goInt cs.length)) w') : if Region.wanted o (yielded ops a.tmps) = true then Oper.wp P o a w K Q else E := by
  obtain ⟨w', hrun, h2, h3⟩ := run_copy_known (P := P) w dT sT o.type e hu hsz g off dLen dCap A sLen sCap cur t hg cs hn hs hfit h1
  have hw : Region.wanted o (yielded ops a.tmps) = true := by simp [Region.wanted, hgd]
  rw [if_pos hw]
  unfold Oper.wp
  simp [execOp, ho, resolve, invoke, builtin, hd, hse, hrun, Result.andThen]
  exact h w' h2 h3
end
end Go.Proofs.Ytkplhmmajafflaa
