/- The last step of a law 'for every input: true', whatever its arguments' types. No program in sight. -/
import Derived.Test.YtkplhmmajafflaaOpen
import Derived.Handed
import Derived.WalkKit
import Derived.ShutString
namespace Go.Proofs.Ytkplhmmajafflaa
open Go.RowKit Go.ChangeShapes Go.WideShapes Go.ChangeAt
set_option linter.unusedSimpArgs false
set_option linter.unusedVariables false

/-- An argument of type t, as a call hands it in. -/
def Arg (P : Program) (w : World) (t : TypeId) (v : Value) : Prop := (∃ base, Value.okWide P w .any base t v) ∧ Opn P w t v.cells.toList
def Args (P : Program) (w : World) : List TypeId → List Value → Prop
  | [], [] => True
  | t :: ts, v :: vs => Arg P w t v ∧ Args P w ts vs
  | _, _ => False

section
variable {P : Program} {w : World} {t : TypeId} {v : Value}
theorem Arg.int {k : IntKind} (ht : P.underlying t = some (.int k)) (h : Arg P w t v) : ∃ n, v = .int k n ∧ (Lit.int k n).wf = true := by
  obtain ⟨⟨base, h1⟩, h2⟩ := h
  obtain ⟨n, rfl⟩ := okWide_int ht h1
  obtain ⟨m, e, hw⟩ := h2.int ht
  simp [Value.cells] at e
  subst e
  exact ⟨_, rfl, hw⟩
theorem Arg.bool (ht : P.underlying t = some .bool) (h : Arg P w t v) : ∃ b, v = .bool b := by
  obtain ⟨⟨base, h1⟩, h2⟩ := h
  exact okWide_bool ht h1
theorem Arg.struct {fs : Array Field} (ht : P.underlying t = some (.struct fs)) (hc : contig P 0 fs.toList = true) (hw : P.cellsOf t = widths P (fs.toList.map (·.type))) (h : Arg P w t v) :
    ∃ cs, v = .agg cs ∧ Opns P w (fs.toList.map (·.type)) cs.toList := by
  obtain ⟨⟨base, h1⟩, h2⟩ := h
  obtain ⟨cs, rfl, _⟩ := okWide_struct ht h1
  exact ⟨cs, rfl, h2.struct ht hc hw⟩
theorem Arg.slice {e : TypeId} {m : Nat} (ht : P.underlying t = some (.slice e)) (hC : P.cellsOf e = m) (hm : 0 < m) (h : Arg P w t v) :
    ∃ (A : Option Addr) (n cap : Nat), v = .slice A n cap ∧ n ≤ cap ∧ cap ≤ maxLen ∧
      (0 < n → ∃ b off, A = some ⟨b, off, none⟩ ∧ b < w.heap.size ∧ ∀ k, k < n → ∃ es : List Value, w.row? b (off + k * m) m = some es.toArray ∧ Opn P w e es) := by
  obtain ⟨⟨base, h1⟩, h2⟩ := h
  obtain ⟨a, l, c, rfl⟩ := okWide_slice ht h1
  obtain ⟨A, n, cap, e, hh⟩ := h2.slice ht hC hm
  simp [Value.cells] at e
  obtain ⟨rfl, rfl, rfl⟩ := e
  exact ⟨_, _, _, rfl, hh⟩
end

theorem Args.zero {P : Program} {w : World} {vs : Array Value} (h : Args P w [] vs.toList) : vs = #[] := by
  obtain ⟨l⟩ := vs
  match l, h with
  | [], _ => rfl
theorem Args.open1 {P : Program} {w : World} {vs : Array Value} {t0 : TypeId} (h : Args P w [t0] vs.toList) : ∃ v0, vs = #[v0] ∧ Arg P w t0 v0 := by
  obtain ⟨l⟩ := vs
  match l, h with
  | [v0], ⟨h0, _⟩ => exact ⟨v0, rfl, h0⟩
theorem Args.open2 {P : Program} {w : World} {vs : Array Value} {t0 t1 : TypeId} (h : Args P w [t0, t1] vs.toList) : ∃ v0 v1, vs = #[v0, v1] ∧ Arg P w t0 v0 ∧ Arg P w t1 v1 := by
  obtain ⟨l⟩ := vs
  match l, h with
  | [v0, v1], ⟨h0, h1, _⟩ => exact ⟨v0, v1, rfl, h0, h1⟩
theorem Args.open3 {P : Program} {w : World} {vs : Array Value} {t0 t1 t2 : TypeId} (h : Args P w [t0, t1, t2] vs.toList) : ∃ v0 v1 v2, vs = #[v0, v1, v2] ∧ Arg P w t0 v0 ∧ Arg P w t1 v1 ∧ Arg P w t2 v2 := by
  obtain ⟨l⟩ := vs
  match l, h with
  | [v0, v1, v2], ⟨h0, h1, h2, _⟩ => exact ⟨v0, v1, v2, rfl, h0, h1, h2⟩
theorem Args.open4 {P : Program} {w : World} {vs : Array Value} {t0 t1 t2 t3 : TypeId} (h : Args P w [t0, t1, t2, t3] vs.toList) : ∃ v0 v1 v2 v3, vs = #[v0, v1, v2, v3] ∧ Arg P w t0 v0 ∧ Arg P w t1 v1 ∧ Arg P w t2 v2 ∧ Arg P w t3 v3 := by
  obtain ⟨l⟩ := vs
  match l, h with
  | [v0, v1, v2, v3], ⟨h0, h1, h2, h3, _⟩ => exact ⟨v0, v1, v2, v3, rfl, h0, h1, h2, h3⟩
theorem Args.open5 {P : Program} {w : World} {vs : Array Value} {t0 t1 t2 t3 t4 : TypeId} (h : Args P w [t0, t1, t2, t3, t4] vs.toList) : ∃ v0 v1 v2 v3 v4, vs = #[v0, v1, v2, v3, v4] ∧ Arg P w t0 v0 ∧ Arg P w t1 v1 ∧ Arg P w t2 v2 ∧ Arg P w t3 v3 ∧ Arg P w t4 v4 := by
  obtain ⟨l⟩ := vs
  match l, h with
  | [v0, v1, v2, v3, v4], ⟨h0, h1, h2, h3, h4, _⟩ => exact ⟨v0, v1, v2, v3, v4, rfl, h0, h1, h2, h3, h4⟩
theorem Args.open6 {P : Program} {w : World} {vs : Array Value} {t0 t1 t2 t3 t4 t5 : TypeId} (h : Args P w [t0, t1, t2, t3, t4, t5] vs.toList) : ∃ v0 v1 v2 v3 v4 v5, vs = #[v0, v1, v2, v3, v4, v5] ∧ Arg P w t0 v0 ∧ Arg P w t1 v1 ∧ Arg P w t2 v2 ∧ Arg P w t3 v3 ∧ Arg P w t4 v4 ∧ Arg P w t5 v5 := by
  obtain ⟨l⟩ := vs
  match l, h with
  | [v0, v1, v2, v3, v4, v5], ⟨h0, h1, h2, h3, h4, h5, _⟩ => exact ⟨v0, v1, v2, v3, v4, v5, rfl, h0, h1, h2, h3, h4, h5⟩

theorem Args.cons {P : Program} {w : World} {t : TypeId} {ts : List TypeId} {l : List Value} (h : Args P w (t :: ts) l) : ∃ v l', l = v :: l' ∧ Arg P w t v ∧ Args P w ts l' := by
  match l, h with
  | v :: l', ⟨h1, h2⟩ => exact ⟨v, l', rfl, h1, h2⟩
theorem Args.nil {P : Program} {w : World} {l : List Value} (h : Args P w [] l) : l = [] := by
  match l, h with
  | [], _ => rfl

theorem args_of {H : Type} {enc : TypeId × Value → H} {P : Program} {w : World} {base bs : Nat} {spare : Nat → Bool} {held : Bool} : ∀ (ts : List TypeId) (vs : List Value) (ds : List (DataW H)) (ps : List MemPlace),
    (∀ (j : Nat) t v, ts[j]? = some t → vs[j]? = some v → Value.okWide P w .any base t v) → DataW.TrodAll enc P w bs spare held ts vs ds ps → Args P w ts vs
  | [], [], [], _, _, _ => trivial
  | t :: ts, v :: vs, d :: ds, ps, hv, h => by
    obtain ⟨p, q, ⟨fuel, h1⟩, h2, _⟩ := h
    exact ⟨⟨⟨base, hv 0 t v rfl rfl⟩, H, enc, bs, spare, held, fuel, _, h1⟩, args_of ts vs ds q (fun j t v h h' => hv (j + 1) t v h h') h2⟩
  | [], [], _ :: _, _, _, h => h.elim
  | [], _ :: _, _, _, _, h => by cases ‹List (DataW H)› <;> exact h.elim
  | _ :: _, [], _, _, _, h => by cases ‹List (DataW H)› <;> exact h.elim
  | _ :: _, _ :: _, [], _, _, h => h.elim

theorem trodAll_length {H : Type} {enc : TypeId × Value → H} {P : Program} {w : World} {bs : Nat} {spare : Nat → Bool} {held : Bool} : ∀ (ts : List TypeId) (vs : List Value) (ds : List (DataW H)) (ps : List MemPlace),
    DataW.TrodAll enc P w bs spare held ts vs ds ps → ds.length = ts.length
  | [], [], [], _, _ => rfl
  | t :: ts, v :: vs, d :: ds, ps, h => by
    obtain ⟨p, q, h1, h2, _⟩ := h
    simp [trodAll_length ts vs ds q h2]
  | [], [], _ :: _, _, h => h.elim
  | [], _ :: _, _, _, h => by cases ‹List (DataW H)› <;> exact h.elim
  | _ :: _, [], _, _, h => by cases ‹List (DataW H)› <;> exact h.elim
  | _ :: _, _ :: _, [], _, h => h.elim

theorem law_lifted {H : Type} {enc : TypeId × Value → H} {C : Checked} {os : Os} {f : FuncId} {fn : Func} {s : ChangeSpec} {conds : List PathCond} {bt : TypeId}
    (own : ownKnob C.prog.godebug = none) (started : os.Started) (noInit : C.prog.inits.idxOf? f = none) (hfn : C.prog.funcs[f]? = some fn)
    (witness : ∃ (w : World) (tape : Tape) (i : Input), w.os = os ∧ (w.forCall tape i).Shaped C.prog ∧ i.vars = [] ∧ Input.okWide C.prog (w.forCall tape i) .any w.heap.size f i ∧
      s.pre6 enc C.prog fn conds false (w.forCall tape i).memory i.args ∧ ({} : Assume).holds C.prog (lone (Frame.enter C.prog f i.args .normal) [] (w.forCall tape i)))
    (hl : laidOutB C.prog = true) (hvars : s.vars = []) (hr : fn.resultTypes = #[bt]) (hbt : C.prog.underlying bt = some .bool)
    (hread : (fn.params.toList.all fun t => C.prog.readableRec t && decide (t < C.prog.types.size)) = true)
    (hs : ∀ ds : List (DataW H), ds.length = fn.params.toList.length → s.fn H ds = { results := [.lit (.bool true)], args := ds })
    (walk : ∀ (W : World) (vs : Array Value), Args C.prog W fn.params.toList vs.toList → Calls C.prog f vs W fun e W' => e = .returned (.bool true) ∧ Below W.heap.size W W') :
    ReturnsInHanded {} C os f .any (s.pre6 enc C.prog fn conds false) (s.post enc C.prog fn false true false false) := by
  refine returnsInHanded_of_change own started noInit hfn witness ?_
  intro W base args ds gs before hval hW _ _
  have hW' := hW
  obtain ⟨p, q, hA, hV, rfl, hfz, hnd⟩ := hW
  rw [hvars] at hV
  obtain ⟨rfl, rfl⟩ := trodVars_none hV
  have hargs : Args C.prog W fn.params.toList args.toList := args_of _ _ _ _ (fun j t v h h' => hval j t v (by simpa using h) (by simpa using h')) hA
  refine (walk W args hargs).mono fun e W' ⟨he, hb⟩ => ?_
  subst he
  have hlt : ∀ x ∈ p, x.block < W.heap.size := fun x hx => hW'.lt x (by simp [hx])
  have hfn' := hs ds (trodAll_length _ _ _ _ hA)
  refine ⟨_, rfl, ds, [], _, [], p, [], hW', ?_, ?_, ?_, hb.frame _, fun h => by cases h⟩
  · rw [List.append_nil, hfn', hr]
    exact trodAll_mk1 (shut_bool hbt _)
  · rw [List.append_nil, hfn']
    exact below_trodAll hl hb _ _ _ _ hread hA hlt
  · rw [List.append_nil, hfn', hvars]
    exact rfl
end Go.Proofs.Ytkplhmmajafflaa
