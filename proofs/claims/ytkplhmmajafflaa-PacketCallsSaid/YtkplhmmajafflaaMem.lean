import Derived.Test.YtkplhmmajafflaaMix
/- Loads and stores of whole structs and arrays: a law an operation, over worlds written in new blocks, growth and pinned blocks. No program in sight. -/
namespace Go
open Go.RowKit
set_option linter.unusedSimpArgs false
set_option linter.unusedVariables false

/-- A piece of an array. -/
def sub? (c : Array Value) (off n : Nat) : Option (Array Value) := if off + n ≤ c.size then some (c.extract off (off + n)) else none
theorem sub?_whole (c : Array Value) (n : Nat) (h : n = c.size) : sub? c 0 n = some c := by subst h; simp [sub?]
@[go_sem] theorem sub?_left (a b : Array Value) (off n : Nat) (h : off + n ≤ a.size) : sub? (a ++ b) off n = sub? a off n := by
  unfold sub?
  rw [if_pos (by simp <;> omega), if_pos h]
  congr 1
  apply Array.ext_getElem?
  intro i
  simp only [Array.getElem?_extract, Array.getElem?_append, Array.size_append]
  by_cases hi : i < n
  · rw [if_pos (by omega), if_pos (by omega), if_pos (by omega)]
  · rw [if_neg (by omega), if_neg (by omega)]
@[go_sem] theorem sub?_right (a b : Array Value) (off n : Nat) (h : a.size ≤ off) : sub? (a ++ b) off n = sub? b (off - a.size) n := by
  unfold sub?
  by_cases hl : off + n ≤ a.size + b.size
  · rw [if_pos (by simp <;> omega), if_pos (by omega)]
    congr 1
    apply Array.ext_getElem?
    intro i
    simp only [Array.getElem?_extract, Array.getElem?_append, Array.size_append]
    by_cases hi : i < n
    · rw [if_pos (by omega), if_neg (by omega), if_pos (by omega)]
      congr 1; omega
    · rw [if_neg (by omega), if_neg (by omega)]
  · rw [if_neg (by simp <;> omega), if_neg (by omega)]
theorem sub?_some {c : Array Value} {off n : Nat} {d : Array Value} (h : sub? c off n = some d) : d.size = n ∧ ∀ i, i < n → c[off + i]? = d[i]? := by
  unfold sub? at h
  split at h
  · rename_i hs
    obtain rfl := Option.some.inj h
    refine ⟨by simp; omega, fun i hi => ?_⟩
    rw [Array.getElem?_extract]
    simp [hi, show i < off + n - off by omega]
    intro hc; omega
  · cases h
/-- An array with a piece written anew. -/
def splice (c : Array Value) (off : Nat) (d : Array Value) : Array Value := (c.toList.take off ++ d.toList ++ c.toList.drop (off + d.size)).toArray
theorem splice_whole (c d : Array Value) (h : d.size = c.size) : splice c 0 d = d := by
  unfold splice
  simp only [List.take_zero, List.nil_append, Nat.zero_add]
  rw [List.drop_of_length_le (by simp <;> omega)]
  simp

/-- The n cells from an address on, as they lie in one block. -/
def World.row? (w : World) (b off n : Nat) : Option (Array Value) :=
  match w.heap[b]? with
  | some (.cells c _ _) => sub? c off n
  | _ => none
/-- They may be written. -/
def World.loose (w : World) (b : Nat) : Prop := ∃ c t, w.heap[b]? = some (.cells c t (0, 0))
/-- They are written. -/
def World.put (w : World) (b off : Nat) (d : Array Value) : World :=
  { w with heap := w.heap.modify b fun | .cells c t f => .cells (splice c off d) t f | o => o }

section cells
variable (w : World)
theorem row?_of_heap {w w' : World} {b : Nat} (h : w'.heap[b]? = w.heap[b]?) (off n : Nat) : w'.row? b off n = w.row? b off n := by simp [World.row?, h]
theorem loose_of_heap {w w' : World} {b : Nat} (h : w'.heap[b]? = w.heap[b]?) : w'.loose b ↔ w.loose b := by simp [World.loose, h]
theorem row?_alloc_at (c : Array Value) (t : TypeId) (b off n : Nat) (h : b = w.heap.size) : (w.alloc (.cells c t)).row? b off n = sub? c off n := by
  subst h
  have hh : (w.alloc (.cells c t)).heap[w.heap.size]? = some (.cells c t (0, 0)) := heap_alloc_new w _
  simp only [World.row?, hh]
theorem row?_alloc_past (o : Obj) (b off n : Nat) (h : b < w.heap.size) : (w.alloc o).row? b off n = w.row? b off n := row?_of_heap (Below.heap_alloc w o b h) _ _
theorem row?_ext (x : Grow) (b off n : Nat) (h : b < w.heap.size) : (w.ext x).row? b off n = w.row? b off n := row?_of_heap (ext_heap w x h) _ _
theorem row?_ext2 (x y : Grow) (b off n : Nat) (h : b < w.heap.size) : ((w.ext x).ext y).row? b off n = w.row? b off n := by
  rw [row?_ext _ _ _ _ _ (by rw [ext_size]; omega), row?_ext _ _ _ _ _ h]
theorem row?_pin (g : Nat) (c : Array Value) (t : TypeId) (off n : Nat) (h : g < w.heap.size) : (w.pin g c t).row? g off n = sub? c off n := by
  simp [World.row?, pin_heap w g c t h]
theorem row?_pin_other (g : Nat) (c : Array Value) (t : TypeId) (b off n : Nat) (h : b ≠ g) : (w.pin g c t).row? b off n = w.row? b off n := row?_of_heap (pin_heap_other w g c t h) _ _
theorem row?_drew (b off n : Nat) : w.drew.row? b off n = w.row? b off n := rfl
theorem row?_drewN (k b off n : Nat) : (w.drewN k).row? b off n = w.row? b off n := rfl
theorem loose_alloc_at (c : Array Value) (t : TypeId) (b : Nat) (h : b = w.heap.size) : (w.alloc (.cells c t)).loose b := by subst h; exact ⟨c, t, heap_alloc_new w _⟩
theorem loose_alloc_past (o : Obj) (b : Nat) (h : b < w.heap.size) : (w.alloc o).loose b ↔ w.loose b := loose_of_heap (Below.heap_alloc w o b h)
theorem loose_ext (x : Grow) (b : Nat) (h : b < w.heap.size) : (w.ext x).loose b ↔ w.loose b := loose_of_heap (ext_heap w x h)
theorem loose_pin (g : Nat) (c : Array Value) (t : TypeId) (h : g < w.heap.size) : (w.pin g c t).loose g := ⟨c, t, pin_heap w g c t h⟩
theorem loose_pin_other (g : Nat) (c : Array Value) (t : TypeId) (b : Nat) (h : b ≠ g) : (w.pin g c t).loose b ↔ w.loose b := loose_of_heap (pin_heap_other w g c t h)
theorem loose_drew (b : Nat) : w.drew.loose b ↔ w.loose b := Iff.rfl
theorem loose_drewN (k b : Nat) : (w.drewN k).loose b ↔ w.loose b := Iff.rfl

theorem put_heap_other {b k : Nat} (off : Nat) (d : Array Value) (h : b ≠ k) : (w.put b off d).heap[k]? = w.heap[k]? := by simp [World.put, Array.getElem?_modify, h]
theorem put_heap_whole {w : World} {b : Nat} {z d : Array Value} {t : TypeId} {f : Nat × Nat} (h : w.heap[b]? = some (.cells z t f)) (hs : d.size = z.size) : (w.put b 0 d).heap[b]? = some (.cells d t f) := by
  simp [World.put, Array.getElem?_modify, h, splice_whole z d hs]
theorem row?_whole {w : World} {b n : Nat} {z : Array Value} {t : TypeId} {f : Nat × Nat} (h : w.heap[b]? = some (.cells z t f)) (hs : n = z.size) : w.row? b 0 n = some z := by
  simp [World.row?, h, sub?_whole z n hs]
theorem put_alloc_at (c : Array Value) (t : TypeId) (b off : Nat) (d : Array Value) (h : b = w.heap.size) : (w.alloc (.cells c t)).put b off d = w.alloc (.cells (splice c off d) t) := by
  subst h
  show ({ w with heap := _ } : World) = { w with heap := _ }
  congr 1
  apply Array.ext_getElem?
  intro k
  simp only [World.alloc, Array.getElem?_modify, Array.getElem?_push]
  by_cases hk : w.heap.size = k
  · subst hk; simp
  · simp [hk, Ne.symm hk]
theorem put_alloc_past (o : Obj) (b off : Nat) (d : Array Value) (h : b < w.heap.size) : (w.alloc o).put b off d = (w.put b off d).alloc o := by
  show ({ w with heap := _ } : World) = { w with heap := _ }
  congr 1
  apply Array.ext_getElem?
  intro k
  simp only [World.alloc, World.put, Array.getElem?_modify, Array.getElem?_push, Array.size_modify]
  by_cases hk : b = k
  · subst hk; simp [show b ≠ w.heap.size by omega]
  · by_cases hk2 : k = w.heap.size <;> simp [hk, hk2]
    intro h'; omega
@[simp, go_sem] theorem put_size (b off : Nat) (d : Array Value) : (w.put b off d).heap.size = w.heap.size := by simp [World.put]
theorem put_ext (x : Grow) (b off : Nat) (d : Array Value) (h : b < w.heap.size) : (w.ext x).put b off d = (w.put b off d).ext x := by
  unfold World.put World.ext
  congr 1
  apply Array.ext_getElem?
  intro k
  simp only [Array.getElem?_append, Array.getElem?_modify, Array.size_modify]
  by_cases hk : b = k
  · subst hk; simp [h]
  · by_cases hl : k < w.heap.size <;> simp [hk, hl]
theorem put_pin (g : Nat) (c : Array Value) (t : TypeId) (off : Nat) (d : Array Value) : (w.pin g c t).put g off d = w.pin g (splice c off d) t := by
  unfold World.pin World.put
  congr 1
  apply Array.ext_getElem?
  intro k
  simp only [Array.getElem?_modify, Array.getElem?_setIfInBounds]
  by_cases hk : g = k
  · subst hk
    by_cases hs : g < w.heap.size <;> simp [hs]
  · simp [hk]
theorem put_pin_other (g : Nat) (c : Array Value) (t : TypeId) (b off : Nat) (d : Array Value) (h : b ≠ g) : (w.pin g c t).put b off d = (w.put b off d).pin g c t := by
  unfold World.pin World.put
  congr 1
  apply Array.ext_getElem?
  intro k
  simp only [Array.getElem?_modify, Array.getElem?_setIfInBounds, Array.size_modify]
  by_cases hk : g = k
  · subst hk
    simp [h]
  · by_cases hb : b = k <;> simp [hk, hb]
theorem put_drew (b off : Nat) (d : Array Value) : w.drew.put b off d = (w.put b off d).drew := rfl
theorem put_drewN (k b off : Nat) (d : Array Value) : (w.drewN k).put b off d = (w.put b off d).drewN k := rfl
theorem put_below {B : Nat} {a w : World} (h : Below B a w) {b : Nat} (hb : B ≤ b) (off : Nat) (d : Array Value) : Below B a (w.put b off d) :=
  ⟨h.os, h.tape, h.output, by rw [put_size]; exact h.size, fun k hk => (put_heap_other w off d (by omega)).trans (h.block k hk)⟩
end cells
section rules
variable (w : World) (b off n : Nat)
def World.rowX? (w : World) (b off n : Nat) : Option (Array Value) := w.row? b off n
def World.looseX (w : World) (b : Nat) : Prop := w.loose b
def World.putX (w : World) (b off : Nat) (d : Array Value) : World := w.put b off d
def objRow : Obj → Nat → Nat → Option (Array Value)
  | .cells c _ _, off, n => sub? c off n
  | _, _, _ => none
@[go_sem] theorem objRow_cells (c : Array Value) (t : TypeId) (f : Nat × Nat) : objRow (.cells c t f) off n = sub? c off n := rfl
@[go_sem ↓] theorem rule_row_alloc (o : Obj) : (w.alloc o).row? b off n = if b < w.heap.size then w.row? b off n else if b = w.heap.size then objRow o off n else none := by
  split
  · rename_i h; exact row?_alloc_past w o b off n h
  · split
    · rename_i _ h; subst h
      have e : (w.alloc o).heap[w.heap.size]? = some o := heap_alloc_new w o
      unfold World.row?
      rw [e]
      cases o <;> rfl
    · have e : (w.alloc o).heap[b]? = none := Array.getElem?_eq_none (by rw [World.size_alloc]; omega)
      simp [World.row?, e]
@[go_sem ↓] theorem rule_row_ext (x : Grow) : (w.ext x).row? b off n = if b < w.heap.size then w.row? b off n else (w.ext x).rowX? b off n := by
  split
  · rename_i h; exact row?_ext w x b off n h
  · rfl
@[go_sem ↓] theorem rule_row_pin (g : Nat) (c : Array Value) (t : TypeId) : (w.pin g c t).row? b off n = if b = g then (if g < w.heap.size then sub? c off n else none) else w.row? b off n := by
  split
  · rename_i h; subst h
    split
    · rename_i h; exact row?_pin w b c t off n h
    · have e : (w.pin b c t).heap[b]? = none := Array.getElem?_eq_none (by rw [pin_size]; omega)
      simp [World.row?, e]
  · rename_i h; exact row?_pin_other w g c t b off n h
def objLoose : Obj → Prop
  | .cells _ _ f => f = (0, 0)
  | _ => False
@[go_sem] theorem objLoose_cells (c : Array Value) (t : TypeId) : objLoose (.cells c t) := rfl
@[go_sem ↓] theorem rule_loose_alloc (o : Obj) : (w.alloc o).loose b = if b < w.heap.size then w.loose b else if b = w.heap.size then objLoose o else False := by
  split
  · rename_i h; exact propext (loose_alloc_past w o b h)
  · split
    · rename_i _ h; subst h
      have e : (w.alloc o).heap[w.heap.size]? = some o := heap_alloc_new w o
      unfold World.loose
      rw [e]
      cases o <;> simp [objLoose]
    · have e : (w.alloc o).heap[b]? = none := Array.getElem?_eq_none (by rw [World.size_alloc]; omega)
      simp [World.loose, e]
@[go_sem ↓] theorem rule_loose_ext (x : Grow) : (w.ext x).loose b = if b < w.heap.size then w.loose b else (w.ext x).looseX b := by
  split
  · rename_i h; exact propext (loose_ext w x b h)
  · rfl
@[go_sem ↓] theorem rule_loose_pin (g : Nat) (c : Array Value) (t : TypeId) : (w.pin g c t).loose b = if b = g then g < w.heap.size else w.loose b := by
  split
  · rename_i h; subst h
    apply propext
    constructor
    · rintro ⟨c', t', h⟩
      have := (Array.getElem?_eq_some_iff.1 h).1
      simpa using this
    · exact loose_pin w b c t
  · rename_i h; exact propext (loose_pin_other w g c t b h)
def objPut : Obj → Nat → Array Value → Obj
  | .cells c t f, off, d => .cells (splice c off d) t f
  | o, _, _ => o
@[go_sem] theorem objPut_cells (c : Array Value) (t : TypeId) (f : Nat × Nat) (d : Array Value) : objPut (.cells c t f) off d = .cells (splice c off d) t f := rfl
@[go_sem ↓] theorem rule_put_alloc (o : Obj) (d : Array Value) : (w.alloc o).put b off d = if b < w.heap.size then (w.put b off d).alloc o else if b = w.heap.size then w.alloc (objPut o off d) else w.alloc o := by
  split
  · rename_i h; exact put_alloc_past w o b off d h
  · split
    · rename_i _ h; subst h
      show ({ w with heap := _ } : World) = { w with heap := _ }
      congr 1
      apply Array.ext_getElem?
      intro k
      simp only [World.alloc, Array.getElem?_modify, Array.getElem?_push]
      by_cases hk : w.heap.size = k
      · subst hk; simp; cases o <;> rfl
      · simp [hk, Ne.symm hk]
    · show ({ w with heap := _ } : World) = { w with heap := _ }
      congr 1
      apply Array.ext_getElem?
      intro k
      simp only [World.alloc, Array.getElem?_modify, Array.getElem?_push]
      by_cases hk : b = k
      · have h1 : ¬ b = w.heap.size := by assumption
        have e : w.heap[b]? = none := Array.getElem?_eq_none (by omega)
        subst hk
        simp [e, h1]
      · simp [hk]
@[go_sem ↓] theorem rule_put_ext (x : Grow) (d : Array Value) : (w.ext x).put b off d = if b < w.heap.size then (w.put b off d).ext x else (w.ext x).putX b off d := by
  split
  · rename_i h; exact put_ext w x b off d h
  · rfl
@[go_sem ↓] theorem rule_put_pin (g : Nat) (c : Array Value) (t : TypeId) (d : Array Value) : (w.pin g c t).put b off d = if b = g then w.pin g (splice c off d) t else (w.put b off d).pin g c t := by
  split
  · rename_i h; subst h; exact put_pin w b c t off d
  · rename_i h; exact put_pin_other w g c t b off d h
end rules
attribute [go_sem] row?_drew row?_drewN loose_drew loose_drewN put_drew put_drewN sub?_whole splice_whole pin_pin

section ops
variable {P : Program}
/-- A type whose values are n cells in an 'agg'. -/
structure AggTy (P : Program) (T : TypeId) (n : Nat) : Prop where
  agg : ∀ w, (isAgg T).run P w = .ok true w
  size : ∀ w, (sizeOf T).run P w = .ok n w

def slowLoad (P : Program) (T : TypeId) (v : Value) (w : World) : Result Next := (do pure (.value (← Instr.loadAt T v)) : Sem Next).run P w
def loadRow (n : Nat) (v : Value) (w : World) (slow : Result Next) : Result Next :=
  match v with
  | .pointer (some ⟨b, off, none⟩) => match w.row? b off n with
    | some cs => .ok (.value (.agg cs)) w
    | none => slow
  | _ => slow
@[go_sem] theorem loadRow_some (n b off : Nat) (w : World) (slow : Result Next) (cs : Array Value) (h : w.row? b off n = some cs) : loadRow n (.pointer (some ⟨b, off, none⟩)) w slow = .ok (.value (.agg cs)) w := by
  simp only [loadRow, h]
@[go_sem] theorem loadRow_ptr (n b off : Nat) (w : World) (slow : Result Next) : loadRow n (.pointer (some ⟨b, off, none⟩)) w slow = match w.row? b off n with
    | some cs => .ok (.value (.agg cs)) w
    | none => slow := rfl

theorem loadVar_agg {T n : Nat} (hT : AggTy P T n) {b off : Nat} {w : World} {cs : Array Value} (hc : w.row? b off n = some cs) : (loadVar T ⟨b, off, none⟩).run P w = .ok (.agg cs) w := by
  unfold World.row? at hc
  split at hc
  · rename_i c t f hh
    obtain ⟨hs, hi⟩ := sub?_some hc
    have hl := run_loadCells_list (P := P) w ⟨b, off, none⟩ cs.toList (fun j v hv => by
      have hadd : (⟨b, off, none⟩ : Addr).add j = ⟨b, off + j, none⟩ := by unfold Addr.add; split <;> simp_all
      have hj : j < n := by
        have := (List.getElem?_eq_some_iff.1 hv).1
        simp at this
        omega
      rw [hadd]
      simp only [World.cell?, hh]
      simp only [Option.isSome_none, Bool.false_eq_true, if_false]
      rw [hi j hj]
      simpa using hv)
    rw [Array.length_toList, hs] at hl
    simp [loadVar, Sem.run_bind, hT.agg, hT.size, hl]
  · cases hc
theorem results_row {fn : Func} {t T n : Nat} (h : fn.results = #[.cell t T]) (hT : AggTy P T n) {tmps : Array Value} {b off : Nat} {w : World} {cs : Array Value} (ht : tmps.getD t undef = .pointer (some ⟨b, off, none⟩)) (hc : w.row? b off n = some cs) :
    (results fn tmps).run P w = .ok (.agg cs) w := by
  have ht' : tmps[t]?.getD undef = .pointer (some ⟨b, off, none⟩) := by simpa using ht
  simp [results, h, ht', asAddr, loadVar_agg hT hc]

theorem run_loadAgg {T n : Nat} (hT : AggTy P T n) (ρ : Operand → Value) (dst : Option Tmp) (x : Operand) (ty : TypeId) (pos : String) (after : Array Edge) (g : Option (Nat × Bool)) (w : World) :
    Sem.run P (execOp ρ { dst, op := .load T x, type := ty, pos, after, guard := g }) w = loadRow n (ρ x) w (slowLoad P T (ρ x) w) := by
  show (do pure (.value (← Instr.loadAt T (ρ x))) : Sem Next).run P w = _
  unfold loadRow
  split
  · rename_i b off hv
    split
    · rename_i cs hc
      have h1 : (loadVar T ⟨b, off, none⟩).run P w = .ok (.agg cs) w := by
        unfold World.row? at hc
        split at hc
        · rename_i c t f hh
          obtain ⟨hs, hi⟩ := sub?_some hc
          have hl := run_loadCells_list (P := P) w ⟨b, off, none⟩ cs.toList (fun j v hv => by
            have hadd : (⟨b, off, none⟩ : Addr).add j = ⟨b, off + j, none⟩ := by unfold Addr.add; split <;> simp_all
            have hj : j < n := by
              have := (List.getElem?_eq_some_iff.1 hv).1
              simp at this
              omega
            rw [hadd]
            simp only [World.cell?, hh]
            simp only [Option.isSome_none, Bool.false_eq_true, if_false]
            rw [hi j hj]
            simpa using hv)
          rw [Array.length_toList, hs] at hl
          simp [loadVar, Sem.run_bind, hT.agg, hT.size, hl]
        · cases hc
      rw [hv]
      simp [Instr.loadAt, Instr.sureAddr, Sem.run_bind, h1]
    · rw [hv]; rfl
  · rfl

def slowStore (P : Program) (T : TypeId) (v x : Value) (w : World) : Result Next := (do Instr.storeAt T v x; pure .skip : Sem Next).run P w
open Classical in
noncomputable def storeRow (n : Nat) (v x : Value) (w : World) (slow : Result Next) : Result Next :=
  match v, x with
  | .pointer (some ⟨b, off, none⟩), .agg d => if d.size = n ∧ (w.row? b off n).isSome = true ∧ w.loose b ∧ OneAll d.toList then .ok .skip (w.put b off d) else slow
  | _, _ => slow
open Classical in
@[go_sem] theorem storeRow_ptr (n b off : Nat) (d : Array Value) (w : World) (slow : Result Next) (h1 : d.size = n) (h2 : (w.row? b off n).isSome = true) (h3 : w.loose b) (h4 : OneAll d.toList) :
    storeRow n (.pointer (some ⟨b, off, none⟩)) (.agg d) w slow = .ok .skip (w.put b off d) := by
  simp only [storeRow]
  rw [if_pos ⟨h1, h2, h3, h4⟩]

theorem run_storeAgg {T n : Nat} (hT : AggTy P T n) (ρ : Operand → Value) (dst : Option Tmp) (p x : Operand) (ty : TypeId) (pos : String) (after : Array Edge) (g : Option (Nat × Bool)) (w : World) :
    Sem.run P (execOp ρ { dst, op := .store T p x, type := ty, pos, after, guard := g }) w = storeRow n (ρ p) (ρ x) w (slowStore P T (ρ p) (ρ x) w) := by
  show (do Instr.storeAt T (ρ p) (ρ x); pure .skip : Sem Next).run P w = _
  unfold storeRow
  split
  · rename_i b off d hv hx
    split
    · rename_i hc
      obtain ⟨h1, h2, h3, h4⟩ := hc
      obtain ⟨c, t, hh⟩ := h3
      have hle : off + d.size ≤ c.size := by
        unfold World.row? at h2
        rw [hh] at h2
        simp only [sub?] at h2
        split at h2
        · omega
        · simp at h2
      have hst := run_storeCells_at (P := P) b off t d.toList 0 c w hh (by simpa using hle) h4
      have e : w.setRow b (c.toList.take (off + 0) ++ d.toList ++ c.toList.drop (off + 0 + d.toList.length)).toArray = w.put b off d := by
        unfold World.setRow World.put
        congr 1
        apply Array.ext_getElem?
        intro k
        simp only [Array.getElem?_modify]
        by_cases hk : b = k
        · subst hk
          obtain ⟨hlt, hv'⟩ := Array.getElem?_eq_some_iff.1 hh
          simp [hlt, hv', splice]
        · simp [hk]
      rw [e] at hst
      rw [hv, hx]
      simp [Instr.storeAt, Instr.sureAddr, storeVar, Sem.run_bind, hT.size, Value.cells, h1, hst]
    · rw [hv, hx]; rfl
  · rfl

/-! A slice literal of structs. -/
theorem foldl_set_list (v : List Value) : ∀ (off : Nat) (k : Nat) (cells : Array Value), off + k + v.length ≤ cells.size →
    ((v.zipIdx k).foldl (fun cs (x : Value × Nat) => cs.setIfInBounds (off + x.2) x.1) cells) = (cells.toList.take (off + k) ++ v ++ cells.toList.drop (off + k + v.length)).toArray := by
  induction v with
  | nil => intro off k cells h; simp
  | cons c v ih =>
    intro off k cells h
    rw [List.zipIdx_cons, List.foldl_cons, ih off (k + 1) _ (by simp at h ⊢; omega)]
    simp only [List.length_cons] at h
    apply Array.ext'
    simp only [Array.toList_setIfInBounds, List.length_cons]
    apply List.ext_getElem?
    intro i
    simp only [List.getElem?_append, List.length_append, List.length_take, List.length_set, List.getElem?_take, List.getElem?_set, List.getElem?_drop, List.getElem?_cons, List.length_cons]
    have hm : min (off + (k + 1)) cells.toList.length = off + k + 1 := by simp; omega
    have hm2 : min (off + k) cells.toList.length = off + k := by simp; omega
    simp only [hm, hm2]
    by_cases h1 : i < off + k
    · simp [h1, show i < off + k + 1 by omega, show i < off + k + 1 + v.length by omega, show ¬ off + k = i by omega, show i < off + k + (v.length + 1) by omega, show i < off + (k + 1) by omega]
    · by_cases h2 : i = off + k
      · subst h2
        simp [show off + k < off + k + 1 + v.length by omega, show off + k < cells.size by omega, show off + k < off + k + (v.length + 1) by omega, show off + k < off + (k + 1) by omega]
      · by_cases h3 : i < off + k + 1 + v.length
        · have e : i - (off + k) = (i - (off + k + 1)) + 1 := by omega
          simp [h1, show ¬ i < off + k + 1 by omega, h3, show i < off + k + (v.length + 1) by omega, e]
        · simp [h1, show ¬ i < off + k + 1 by omega, h3, show ¬ i < off + k + (v.length + 1) by omega, show ¬ off + k = i by omega]
          have e1 : off + (k + 1) + v.length + (i - (off + k + 1 + v.length)) = i := by omega
          have e2 : off + k + (v.length + 1) + (i - (off + k + (v.length + 1))) = i := by omega
          rw [e1, e2]
          simp [show ¬ off + k = i by omega]

theorem foldl_splice (v cells : Array Value) (off : Nat) (h : off + v.size ≤ cells.size) : v.zipIdx.foldl (fun cs (x : Value × Nat) => cs.setIfInBounds (off + x.2) x.1) cells = splice cells off v := by
  have := foldl_set_list v.toList off 0 cells (by simpa using h)
  simp only [Nat.add_zero, Array.length_toList] at this
  unfold splice
  rw [← this]
  rw [← Array.foldl_toList]
  congr 1
  simp

/-- The parts of a slice literal of structs, one behind the other. -/
def catOf (n : Nat) : List Value → Option (Array Value)
  | [] => some #[]
  | .agg c :: vs => if c.size = n then (catOf n vs).map (c ++ ·) else none
  | _ :: _ => none
@[go_sem] theorem catOf_nil (n : Nat) : catOf n [] = some #[] := rfl
@[go_sem] theorem catOf_cons (n : Nat) (c : Array Value) (vs : List Value) (h : c.size = n) : catOf n (.agg c :: vs) = (catOf n vs).map (c ++ ·) := by simp [catOf, h]
theorem catOf_size (n : Nat) : ∀ (vs : List Value) (d : Array Value), catOf n vs = some d → d.size = vs.length * n
  | [], d, h => by simp [catOf] at h; subst h; simp
  | .agg c :: vs, d, h => by
    simp only [catOf] at h
    split at h
    · rename_i hc
      obtain ⟨e, he, rfl⟩ := Option.map_eq_some_iff.1 h
      have := catOf_size n vs e he
      simp [this, hc, Nat.succ_mul]
      omega
    · cases h
  | .bool _ :: _, _, h | .int _ _ :: _, _, h | .float _ _ :: _, _, h | .complex _ _ _ :: _, _, h | .string _ :: _, _, h | .pointer _ :: _, _, h | .slice _ _ _ :: _, _, h | .map _ :: _, _, h | .chan _ :: _, _, h
  | .func _ _ _ :: _, _, h | .nilFunc :: _, _, h | .iface _ _ :: _, _, h | .nilIface :: _, _, h | .tuple _ :: _, _, h => by simp [catOf] at h

theorem fill_cat (n : Nat) : ∀ (vs : List Value) (k : Nat) (done rest : Array Value) (d : Array Value), catOf n vs = some d → done.size = k * n → rest.size = vs.length * n →
    Instr.fill (fun i => some (i * n, n)) (done ++ rest) ((vs.zipIdx k).map fun (x : Value × Nat) => (x.2, x.1)) = some (done ++ d)
  | [], k, done, rest, d, h, _, hr => by
    simp [catOf] at h; subst h
    have : rest = #[] := Array.eq_empty_of_size_eq_zero (by simpa using hr)
    subst this
    rfl
  | .agg c :: vs, k, done, rest, d, h, hd, hr => by
    simp only [catOf] at h
    split at h
    · rename_i hc
      obtain ⟨e, he, rfl⟩ := Option.map_eq_some_iff.1 h
      simp only [List.length_cons, Nat.succ_mul] at hr
      rw [List.zipIdx_cons, List.map_cons, Instr.fill]
      simp only [Value.cells]
      refine Eq.trans (if_neg (by simp [hc, hd]; omega)) ?_
      rw [foldl_splice c _ _ (by simp [hc, hd]; omega)]
      have hs : splice (done ++ rest) (k * n) c = (done ++ c) ++ rest.extract n rest.size := by
        unfold splice
        apply Array.ext'
        simp only [Array.toList_append, Array.toList_extract]
        rw [← hd]
        rw [show done.size = done.toList.length from rfl, List.take_left]
        congr 1
        rw [hc, show done.toList.length + n = done.toList.length + n from rfl, List.drop_append]
        simp
        rw [List.drop_of_length_le (by simp), List.nil_append, List.take_of_length_le (by simp)]
      rw [hs, fill_cat n vs (k + 1) (done ++ c) (rest.extract n rest.size) e he (by simp [hd, hc, Nat.succ_mul]) (by simp <;> omega)]
      rw [Array.append_assoc]
    · cases h
  | .bool _ :: _, _, _, _, _, h, _, _ | .int _ _ :: _, _, _, _, _, h, _, _ | .float _ _ :: _, _, _, _, _, h, _, _ | .complex _ _ _ :: _, _, _, _, _, h, _, _ | .string _ :: _, _, _, _, _, h, _, _ | .pointer _ :: _, _, _, _, _, h, _, _
  | .slice _ _ _ :: _, _, _, _, _, h, _, _ | .map _ :: _, _, _, _, _, h, _, _ | .chan _ :: _, _, _, _, _, h, _, _ | .func _ _ _ :: _, _, _, _, _, h, _, _ | .nilFunc :: _, _, _, _, _, h, _, _ | .iface _ _ :: _, _, _, _, _, h, _, _
  | .nilIface :: _, _, _, _, _, h, _, _ | .tuple _ :: _, _, _, _, _, h, _, _ => by simp [catOf] at h

/-- A slice type over structs of n cells. -/
structure SliceTy (P : Program) (T E n : Nat) : Prop where
  sl : P.underlying T = some (.slice E)
  size : ∀ w, (sizeOf E).run P w = .ok n w
  zero : ∃ v : Value, ∀ w, (zeroValue E).run P w = .ok v w
  pos : 0 < n

def buildRow (n E : Nat) (vs : List Value) (w : World) (slow : Result Next) : Result Next :=
  match catOf n vs with
  | some d => .ok (.value (.slice (some ⟨w.heap.size, 0, none⟩) vs.length vs.length)) (w.alloc (.cells d E))
  | none => slow
@[go_sem] theorem buildRow_some (n E : Nat) (vs : List Value) (w : World) (slow : Result Next) : buildRow n E vs w slow = match catOf n vs with
  | some d => .ok (.value (.slice (some ⟨w.heap.size, 0, none⟩) vs.length vs.length)) (w.alloc (.cells d E))
  | none => slow := rfl

def slowBuild (P : Program) (T n : Nat) (ps : Array (Nat × Value)) (w : World) : Result Next := Sem.run P (do pure (.value (← Instr.buildSlice T n ps)) : Sem Next) w

theorem run_buildSlice_rows {T E n : Nat} (hT : SliceTy P T E n) (ρ : Operand → Value) (dst : Option Tmp) (xs : List Operand) (hlen : 0 < xs.length) (hcap : xs.length * n ≤ 16777216) (ty : TypeId) (pos : String) (after : Array Edge) (g : Option (Nat × Bool)) (w : World) :
    Sem.run P (execOp ρ { dst, op := .buildSlice T xs.length ((xs.zipIdx 0).map fun (x : Operand × Nat) => (x.2, x.1)).toArray, type := ty, pos, after, guard := g }) w =
      buildRow n E (xs.map ρ) w (slowBuild P T xs.length (((xs.zipIdx 0).map fun (x : Operand × Nat) => (x.2, x.1)).toArray.map fun (i, x) => (i, ρ x)) w) := by
  unfold buildRow slowBuild
  obtain ⟨z, hz⟩ := hT.zero
  split
  · rename_i d hd
    show Sem.run P (do pure (.value (← Instr.buildSlice T xs.length (((xs.zipIdx 0).map fun (x : Operand × Nat) => (x.2, x.1)).toArray.map fun (i, x) => (i, ρ x)))) : Sem Next) w = _
    have hparts : (((xs.zipIdx 0).map fun (x : Operand × Nat) => (x.2, x.1)).toArray.map fun (i, x) => (i, ρ x)).toList = ((xs.map ρ).zipIdx 0).map fun (x : Value × Nat) => (x.2, x.1) := by
      simp [List.zipIdx_map]
    have hne : ¬ xs.length * n = 0 := by
      have := hT.pos
      have := Nat.mul_pos hlen hT.pos
      omega
    have hfill := fill_cat n (xs.map ρ) 0 #[] ((Array.range (xs.length * n)).map (z.cells[· % z.cells.size]!)) d hd (by simp) (by simp)
    rw [Array.empty_append, Array.empty_append] at hfill
    simp only [Instr.buildSlice, Sem.run_bind, run_underlying hT.sl, Result.andThen_ok, hT.size]
    rw [if_neg (by simpa using hcap)]
    simp only [if_neg hne, Sem.run_bind, Sem.run_pure, Result.andThen_ok, hz]
    rw [hparts, hfill]
    simp [newRow, newObj, Sem.run]
  · rfl
end ops
end Go
