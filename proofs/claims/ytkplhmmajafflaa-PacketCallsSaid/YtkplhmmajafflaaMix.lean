/- A law for regions that draw their order: operations that yield one fixed value in every world that has only grown ('quiet'), beside operations whose value hangs on the world (new blocks, calls that make memory), and a forced tail. No program in sight. -/
import Derived.WalkKit
import Derived.ProofKit
import Derived.BigQuiet
import Derived.Deep.QuietTactic
import Derived.StillTailTactics
namespace Go
open Go.RowKit
set_option linter.unusedSimpArgs false
set_option linter.unusedVariables false

/-- More blocks, another count of draws. -/
structure Grow where
  tail : Array Obj
  drawn : Nat
instance : Inhabited Grow := ⟨⟨#[], 0⟩⟩

/-- The world w with more blocks behind its own, at another count of draws. -/
def World.ext (w : World) (x : Grow) : World := { w with heap := w.heap ++ x.tail, drawn := x.drawn }

section ext
variable (w : World) (x y : Grow)
theorem ext_same : w.ext ⟨#[], w.drawn⟩ = w := by simp [World.ext]
theorem ext_ext : (w.ext x).ext y = w.ext ⟨x.tail ++ y.tail, y.drawn⟩ := by simp [World.ext, Array.append_assoc]
theorem ext_drew : w.drew = w.ext ⟨#[], w.drawn + 1⟩ := by
  show ({ w with drawn := w.drawn + 1 } : World) = { w with heap := w.heap ++ #[], drawn := w.drawn + 1 }
  rw [Array.append_empty]
theorem ext_alloc (o : Obj) : w.alloc o = w.ext ⟨#[o], w.drawn⟩ := by
  show ({ w with heap := w.heap.push o } : World) = { w with heap := w.heap ++ #[o], drawn := w.drawn }
  rw [← Array.push_eq_append]
@[simp, go_sem] theorem ext_size : (w.ext x).heap.size = w.heap.size + x.tail.size := by simp [World.ext]
theorem ext_heap {b : Nat} (h : b < w.heap.size) : (w.ext x).heap[b]? = w.heap[b]? := by
  simp only [World.ext]
  rw [Array.getElem?_append_left h]
theorem ext_cell {p : Addr} (h : p.block < w.heap.size) : (w.ext x).cell? p = w.cell? p := World.cell?_of_block (w := w) (ext_heap w x h)
theorem ext_frozen {p : Addr} (h : p.block < w.heap.size) : (w.ext x).frozen? p = w.frozen? p := World.frozen?_of_block (w := w) (ext_heap w x h)
theorem ext_drew_ext : w.drew.ext x = w.ext x := rfl
theorem ext_below : Below w.heap.size w (w.ext x) := ⟨rfl, rfl, rfl, by simp, fun k hk => ext_heap w x hk⟩
end ext

def Ext (w w' : World) : Prop := ∃ x, w' = w.ext x
theorem Ext.refl (w : World) : Ext w w := ⟨_, (ext_same w).symm⟩
theorem Ext.trans {a b c : World} (h : Ext a b) (k : Ext b c) : Ext a c := by
  obtain ⟨x, rfl⟩ := h; obtain ⟨y, rfl⟩ := k
  exact ⟨_, ext_ext _ _ _⟩
theorem Ext.drew (w : World) : Ext w w.drew := ⟨_, ext_drew w⟩
theorem Ext.alloc (w : World) (o : Obj) : Ext w (w.alloc o) := ⟨_, ext_alloc w o⟩
theorem Ext.below {w w' : World} (h : Ext w w') : Below w.heap.size w w' := by obtain ⟨x, rfl⟩ := h; exact ext_below w x
theorem Ext.of_below {w w' : World} (h : Below w.heap.size w w') : Ext w w' := by
  refine ⟨⟨w'.heap.extract w.heap.size w'.heap.size, w'.drawn⟩, ?_⟩
  have e : w.heap ++ w'.heap.extract w.heap.size w'.heap.size = w'.heap := by
    apply Array.ext_getElem?
    intro i
    rcases Nat.lt_or_ge i w.heap.size with hi | hi
    · rw [Array.getElem?_append_left hi, h.block i hi]
    · rw [Array.getElem?_append_right hi]
      have := h.size
      rw [Array.getElem?_extract]
      split
      · congr 1; omega
      · rw [Array.getElem?_eq_none (by omega)]
  obtain ⟨h1, h2, h3, h4, h5⟩ := h
  cases w'
  simp_all [World.ext]
theorem Ext.size {w w' : World} (h : Ext w w') : w.heap.size ≤ w'.heap.size := h.below.size

/-- Reading old cells in a world that has grown: for the walk. -/
theorem ext2_cell (w : World) (x y : Grow) (p : Addr) (h : p.block < w.heap.size) : ((w.ext x).ext y).cell? p = w.cell? p := by
  rw [ext_cell _ _ (by rw [ext_size]; omega), ext_cell _ _ h]
theorem ext1_cell (w : World) (x : Grow) (p : Addr) (h : p.block < w.heap.size) : (w.ext x).cell? p = w.cell? p := ext_cell w x h

/-- The world w, in which block g is just the cells cs: for blocks whose number is a variable. -/
def World.pin (w : World) (g : Nat) (cs : Array Value) (t : TypeId) : World := { w with heap := w.heap.setIfInBounds g (.cells cs t (0, 0)) }
section pin
variable (w : World) (g : Nat) (cs : Array Value) (t : TypeId)
theorem pin_same (h : w.heap[g]? = some (.cells cs t (0, 0))) : w = w.pin g cs t := by
  have e : w.heap.setIfInBounds g (.cells cs t (0, 0)) = w.heap := by
    apply Array.ext_getElem?
    intro i
    rw [Array.getElem?_setIfInBounds]
    split
    · rename_i hi; subst hi
      split
      · exact h.symm
      · rename_i hlt; rw [Array.getElem?_eq_none (by omega)] at h; cases h
    · rfl
  unfold World.pin
  rw [e]
@[simp, go_sem] theorem pin_size : (w.pin g cs t).heap.size = w.heap.size := by simp [World.pin]
theorem pin_heap (h : g < w.heap.size) : (w.pin g cs t).heap[g]? = some (.cells cs t (0, 0)) := by simp [World.pin, h]
theorem pin_heap_other {b : Nat} (h : b ≠ g) : (w.pin g cs t).heap[b]? = w.heap[b]? := by simp [World.pin, Array.getElem?_setIfInBounds_ne (Ne.symm h)]
theorem pin_cell (i : Nat) (h : g < w.heap.size) : (w.pin g cs t).cell? ⟨g, i, none⟩ = cs[i]? := by simp [World.cell?, pin_heap w g cs t h]
theorem pin_cell_other (b i : Nat) (h : b ≠ g) : (w.pin g cs t).cell? ⟨b, i, none⟩ = w.cell? ⟨b, i, none⟩ := World.cell?_of_block (w := w) (pin_heap_other w g cs t h)
theorem pin_frozen (i : Nat) : (w.pin g cs t).frozen? ⟨g, i, none⟩ = false := by
  by_cases h : g < w.heap.size
  · simp [World.frozen?, pin_heap w g cs t h]
  · have e : (w.pin g cs t).heap[g]? = none := Array.getElem?_eq_none (by rw [pin_size]; omega)
    simp [World.frozen?, e]
theorem pin_frozen_other (b i : Nat) (h : b ≠ g) : (w.pin g cs t).frozen? ⟨b, i, none⟩ = w.frozen? ⟨b, i, none⟩ := World.frozen?_of_block (w := w) (pin_heap_other w g cs t h)
theorem pin_setCell (i : Nat) (v : Value) : (w.pin g cs t).setCell ⟨g, i, none⟩ v = w.pin g (cs.setIfInBounds i v) t := by
  unfold World.pin World.setCell
  congr 1
  apply Array.ext_getElem?
  intro k
  simp only [Array.getElem?_modify, Array.getElem?_setIfInBounds]
  by_cases hk : g = k
  · subst hk
    by_cases hs : g < w.heap.size <;> simp [hs]
  · simp [hk]
theorem pin_setCell_other (b i : Nat) (v : Value) (h : b ≠ g) : (w.pin g cs t).setCell ⟨b, i, none⟩ v = (w.setCell ⟨b, i, none⟩ v).pin g cs t := by
  unfold World.pin World.setCell
  congr 1
  apply Array.ext_getElem?
  intro k
  simp only [Array.getElem?_modify, Array.getElem?_setIfInBounds, Array.size_modify]
  by_cases hk : g = k
  · subst hk
    simp [h]
  · by_cases hb : b = k <;> simp [hk, hb]
theorem pin_pin (cs' : Array Value) (t' : TypeId) : (w.pin g cs t).pin g cs' t' = w.pin g cs' t' := by simp [World.pin]
theorem pin_ext (x : Grow) (h : g < w.heap.size) : (w.pin g cs t).ext x = (w.ext x).pin g cs t := by
  unfold World.pin World.ext
  congr 1
  apply Array.ext_getElem?
  intro k
  simp only [Array.getElem?_append, Array.getElem?_setIfInBounds, Array.size_setIfInBounds, Array.size_append]
  by_cases hk : g = k
  · subst hk; simp [h] <;> omega
  · simp [hk]
theorem ext_setCell (x : Grow) (b i : Nat) (v : Value) (h : b < w.heap.size) : (w.ext x).setCell ⟨b, i, none⟩ v = (w.setCell ⟨b, i, none⟩ v).ext x := by
  unfold World.setCell World.ext
  congr 1
  apply Array.ext_getElem?
  intro k
  simp only [Array.getElem?_append, Array.getElem?_modify, Array.size_modify]
  by_cases hk : b = k
  · subst hk; simp [h]
  · by_cases hl : k < w.heap.size <;> simp [hk, hl]
theorem ext_step {x : Grow} {w1 : World} (h : Below (w.ext x).heap.size (w.ext x) w1) : ∃ z, w1 = w.ext z ∧ x.tail.size ≤ z.tail.size := by
  obtain ⟨y, rfl⟩ := Ext.of_below h
  exact ⟨_, ext_ext _ _ _, by simp⟩
theorem pin_step {x : Grow} {w1 : World} (h : Below ((w.ext x).pin g cs t).heap.size ((w.ext x).pin g cs t) w1) (hg : g < w.heap.size + x.tail.size) :
    ∃ z, w1 = (w.ext z).pin g cs t ∧ x.tail.size ≤ z.tail.size := by
  obtain ⟨y, rfl⟩ := Ext.of_below h
  exact ⟨_, by rw [pin_ext _ _ _ _ _ (by rw [ext_size]; exact hg), ext_ext], by simp⟩
theorem ext_below' {B : Nat} {a w : World} (h : Below B a w) (hB : B ≤ w.heap.size) (x : Grow) : Below B a (w.ext x) := h.trans ((ext_below w x).mono hB)
theorem pin_below {B : Nat} {a : World} (h : Below B a w) (hg : B ≤ g) : Below B a (w.pin g cs t) :=
  ⟨h.os, h.tape, h.output, by rw [pin_size]; exact h.size, fun k hk => (pin_heap_other w g cs t (by omega)).trans (h.block k hk)⟩
theorem pin_alloc (c : Array Value) : (w.alloc (.cells c t)).pin w.heap.size cs t = w.alloc (.cells cs t) := by
  show ({ w with heap := (w.heap.push (.cells c t)).setIfInBounds w.heap.size (.cells cs t (0, 0)) } : World) = { w with heap := w.heap.push (.cells cs t) }
  congr 1
  apply Array.ext_getElem?
  intro k
  simp only [Array.getElem?_setIfInBounds, Array.getElem?_push, Array.size_push]
  by_cases hk : w.heap.size = k
  · subst hk; simp
  · simp [hk, Ne.symm hk]
theorem setRow_pin (h : w.heap[g]? = some (.cells cs t (0, 0))) (cs' : Array Value) : w.setRow g cs' = w.pin g cs' t := by
  unfold World.setRow World.pin
  congr 1
  apply Array.ext_getElem?
  intro k
  simp only [Array.getElem?_modify, Array.getElem?_setIfInBounds]
  by_cases hk : g = k
  · subst hk
    obtain ⟨hlt, hv⟩ := Array.getElem?_eq_some_iff.1 h
    simp [hv, hlt]
  · simp [hk]
section
variable (k : IntKind) (n : Int) (b : Bool) (s : ByteArray) (a : Option Addr) (m c : Nat)
@[simp, go_sem] theorem one_int : (Value.int k n).oneCell' = true := rfl
@[simp, go_sem] theorem one_bool : (Value.bool b).oneCell' = true := rfl
@[simp, go_sem] theorem one_string : (Value.string s).oneCell' = true := rfl
@[simp, go_sem] theorem one_pointer : (Value.pointer a).oneCell' = true := rfl
@[simp, go_sem] theorem one_slice : (Value.slice a m c).oneCell' = true := rfl
@[simp, go_sem] theorem one_map (r : Option Nat) : (Value.map r).oneCell' = true := rfl
end
/-- Each is a value of one cell. -/
def OneAll (vs : List Value) : Prop := ∀ v ∈ vs, v.oneCell' = true
@[simp, go_sem] theorem oneAll_nil : OneAll [] := fun _ h => by cases h
@[simp, go_sem] theorem oneAll_cons (v : Value) (vs : List Value) : OneAll (v :: vs) ↔ v.oneCell' = true ∧ OneAll vs :=
  ⟨fun h => ⟨h v List.mem_cons_self, fun u hu => h u (List.mem_cons_of_mem _ hu)⟩, fun ⟨h1, h2⟩ u hu => by
    rcases List.mem_cons.1 hu with rfl | hu
    · exact h1
    · exact h2 u hu⟩
/-- A whole struct is stored into a block that is known whole. -/
theorem run_storeWhole_pin (P : Program) (vs : List Value) (hg : g < w.heap.size) (hl : vs.length = cs.size) (h1 : OneAll vs) :
    (storeCells ⟨g, 0, none⟩ vs).run P (w.pin g cs t) = .ok () (w.pin g vs.toArray t) := by
  have h := run_storeCells_from (P := P) g t vs 0 cs (w.pin g cs t) (pin_heap w g cs t hg) (by omega) h1
  rw [List.take_zero, List.nil_append] at h
  rw [h, setRow_pin _ g cs t (pin_heap w g cs t hg), pin_pin]
theorem run_storeWhole_alloc (P : Program) (n : Nat) (vs : List Value) (hn : n = w.heap.size) (hl : vs.length = cs.size) (h1 : OneAll vs) :
    (storeCells ⟨n, 0, none⟩ vs).run P (w.alloc (.cells cs t)) = .ok () (w.alloc (.cells vs.toArray t)) := by
  subst hn
  have hh : (w.alloc (.cells cs t)).heap[w.heap.size]? = some (.cells cs t (0, 0)) := heap_alloc_new w _
  have h := run_storeCells_from (P := P) w.heap.size t vs 0 cs (w.alloc (.cells cs t)) hh (by omega) h1
  rw [List.take_zero, List.nil_append] at h
  rw [h, setRow_pin _ _ cs t hh, pin_alloc]
end pin

theorem ext2_frozen (w : World) (x y : Grow) (p : Addr) (h : p.block < w.heap.size) : ((w.ext x).ext y).frozen? p = w.frozen? p := by
  rw [ext_frozen _ _ (by rw [ext_size]; omega), ext_frozen _ _ h]
theorem ext1_frozen (w : World) (x : Grow) (p : Addr) (h : p.block < w.heap.size) : (w.ext x).frozen? p = w.frozen? p := ext_frozen w x h

/-! The walk's rules: each with its test as an 'if', which the walk's arithmetic decides. -/
section rules
variable (w : World) (b i : Nat)
def World.cellX? (w : World) (b i : Nat) : Option Value := w.cell? ⟨b, i, none⟩
def World.frozenX? (w : World) (b i : Nat) : Bool := w.frozen? ⟨b, i, none⟩
def World.setCellX (w : World) (b i : Nat) (v : Value) : World := w.setCell ⟨b, i, none⟩ v
def objCell : Obj → Nat → Option Value
  | .cells c _ _, i => c[i]?
  | _, _ => none
@[go_sem] theorem objCell_cells (c : Array Value) (t : TypeId) (f : Nat × Nat) (i : Nat) : objCell (.cells c t f) i = c[i]? := rfl
@[go_sem ↓] theorem rule_cell_alloc (o : Obj) : (w.alloc o).cell? ⟨b, i, none⟩ = if b < w.heap.size then w.cell? ⟨b, i, none⟩ else if b = w.heap.size then objCell o i else none := by
  split
  · rename_i h; exact World.cell?_alloc_lt w o _ h
  · split
    · rename_i _ h; subst h
      have e : (w.alloc o).heap[w.heap.size]? = some o := heap_alloc_new w o
      unfold World.cell?
      rw [e]
      cases o <;> simp [objCell]
    · have e : (w.alloc o).heap[b]? = none := Array.getElem?_eq_none (by rw [World.size_alloc]; omega)
      simp [World.cell?, e]
@[go_sem ↓] theorem rule_cell_ext (x : Grow) : (w.ext x).cell? ⟨b, i, none⟩ = if b < w.heap.size then w.cell? ⟨b, i, none⟩ else (w.ext x).cellX? b i := by
  split
  · rename_i h; exact ext_cell w x h
  · rfl
@[go_sem ↓] theorem rule_cell_pin (g : Nat) (cs : Array Value) (t : TypeId) : (w.pin g cs t).cell? ⟨b, i, none⟩ = if b = g then (if g < w.heap.size then cs[i]? else none) else w.cell? ⟨b, i, none⟩ := by
  split
  · rename_i h; subst h
    split
    · rename_i h; exact pin_cell w b cs t i h
    · have e : (w.pin b cs t).heap[b]? = none := Array.getElem?_eq_none (by rw [pin_size]; omega)
      simp [World.cell?, e]
  · rename_i h; exact pin_cell_other w g cs t b i h
@[go_sem ↓] theorem rule_frozen_ext (x : Grow) : (w.ext x).frozen? ⟨b, i, none⟩ = if b < w.heap.size then w.frozen? ⟨b, i, none⟩ else (w.ext x).frozenX? b i := by
  split
  · rename_i h; exact ext_frozen w x h
  · rfl
@[go_sem ↓] theorem rule_frozen_pin (g : Nat) (cs : Array Value) (t : TypeId) : (w.pin g cs t).frozen? ⟨b, i, none⟩ = if b = g then false else w.frozen? ⟨b, i, none⟩ := by
  split
  · rename_i h; subst h; exact pin_frozen w b cs t i
  · rename_i h; exact pin_frozen_other w g cs t b i h
def objFrozen : Obj → Nat → Bool
  | .cells _ _ f, i => f.1 ≤ i && i < f.2
  | _, _ => false
@[go_sem] theorem objFrozen_cells (c : Array Value) (t : TypeId) (i : Nat) : objFrozen (.cells c t) i = false := by simp [objFrozen]
@[go_sem ↓] theorem rule_frozen_alloc (o : Obj) : (w.alloc o).frozen? ⟨b, i, none⟩ = if b < w.heap.size then w.frozen? ⟨b, i, none⟩ else if b = w.heap.size then objFrozen o i else false := by
  split
  · rename_i h; exact World.frozen?_of_block (w := w) (Below.heap_alloc w o b h)
  · split
    · rename_i _ h; subst h
      have e : (w.alloc o).heap[w.heap.size]? = some o := heap_alloc_new w o
      unfold World.frozen?
      rw [e]
      cases o <;> simp [objFrozen]
    · have e : (w.alloc o).heap[b]? = none := Array.getElem?_eq_none (by rw [World.size_alloc]; omega)
      simp [World.frozen?, e]
@[go_sem ↓] theorem rule_setCell_ext (x : Grow) (v : Value) : (w.ext x).setCell ⟨b, i, none⟩ v = if b < w.heap.size then (w.setCell ⟨b, i, none⟩ v).ext x else (w.ext x).setCellX b i v := by
  split
  · rename_i h; exact ext_setCell w x b i v h
  · rfl
@[go_sem ↓] theorem rule_setCell_pin (g : Nat) (cs : Array Value) (t : TypeId) (v : Value) : (w.pin g cs t).setCell ⟨b, i, none⟩ v = if b = g then w.pin g (cs.setIfInBounds i v) t else (w.setCell ⟨b, i, none⟩ v).pin g cs t := by
  split
  · rename_i h; subst h; exact pin_setCell w b cs t i v
  · rename_i h; exact pin_setCell_other w g cs t b i v h
def objSet : Obj → Nat → Value → Obj
  | .cells c t f, i, v => .cells (c.setIfInBounds i v) t f
  | o, _, _ => o
@[go_sem] theorem objSet_cells (c : Array Value) (t : TypeId) (f : Nat × Nat) (i : Nat) (v : Value) : objSet (.cells c t f) i v = .cells (c.setIfInBounds i v) t f := rfl
@[go_sem ↓] theorem rule_setCell_alloc (o : Obj) (v : Value) : (w.alloc o).setCell ⟨b, i, none⟩ v = if b < w.heap.size then (w.setCell ⟨b, i, none⟩ v).alloc o else if b = w.heap.size then w.alloc (objSet o i v) else w.alloc o := by
  split
  · rename_i h
    show ({ w with heap := _ } : World) = { w with heap := _ }
    congr 1
    apply Array.ext_getElem?
    intro k
    simp only [World.alloc, World.setCell, Array.getElem?_modify, Array.getElem?_push, Array.size_modify]
    by_cases hk : b = k
    · subst hk; simp [show b ≠ w.heap.size by omega]
    · by_cases hk2 : k = w.heap.size <;> simp [hk, hk2]
      intro h'; omega
  · split
    · rename_i _ h; subst h
      show ({ w with heap := _ } : World) = { w with heap := _ }
      congr 1
      apply Array.ext_getElem?
      intro k
      simp only [World.alloc, Array.getElem?_modify, Array.getElem?_push]
      by_cases hk : w.heap.size = k
      · subst hk; simp; cases o <;> rfl
      · simp [hk, Ne.symm hk]
    · show ({ w with heap := _ } : World) = { w with heap := _ }
      congr 1
      apply Array.ext_getElem?
      intro k
      simp only [World.alloc, Array.getElem?_modify, Array.getElem?_push]
      by_cases hk : b = k
      · have h1 : ¬ b = w.heap.size := by assumption
        have e : w.heap[b]? = none := Array.getElem?_eq_none (by omega)
        subst hk
        simp [e, h1]
      · simp [hk]
end rules

section mix
variable {P : Program} {ops : Array Oper} {md : Region.Mode}

/-- What an operation whose value hangs on the world does: it yields some v, the world has only grown, and V says what is known of both. -/
def Oper.extUpon (P : Program) (w : World) (V : Value → World → Prop) : Result Next → Prop
  | .ok (.value v) w' => Ext w w' ∧ V v w'
  | .ok (.enter f args) w' => w' = w ∧ Calls P f args w fun e w'' => ∃ v, e = .returned v ∧ Ext w w'' ∧ V v w''
  | _ => False
def Oper.extAt (P : Program) (o : Oper) (a : Act) (w : World) (V : Value → World → Prop) : Prop := Oper.extUpon P w V ((execOp a.eval o).run P w)

def selFrom (E : List Nat) : Nat → List Oper → List Oper
  | _, [] => []
  | k, o :: l => if E.contains k then selFrom E (k + 1) l else o :: selFrom E (k + 1) l

def dstAt (ops : Array Oper) (j : Nat) : Option Tmp := (ops[j]?).bind (·.dst)
def looks (ops : Array Oper) (j : Nat) : List Tmp := match ops[j]? with | some o => o.looksAt ops | none => []
/-- The frame in which the operations of E hold u. -/
def frameOf (E : List (Nat × Tmp)) (u : Nat → Value) (a : Act) : Act := E.foldl (fun a p => a.put (some p.2) (u p.1)) a
def upd (u : Nat → Value) (i : Nat) (v : Value) : Nat → Value := fun j => if j = i then v else u j

def Region.mixB (ops : Array Oper) (m : Nat) (E : List (Nat × Tmp)) : Bool :=
  Region.noSelect ops && decide (m ≤ ops.size) &&
  ((List.range m).all fun i => match ops[i]? with | some o => o.after.all (fun e => !Region.binds .any e || decide (e.on < i)) | none => false) &&
  ((List.range m).all fun i => (List.range m).all fun j => i == j || dstAt ops i == none || dstAt ops i != dstAt ops j) &&
  ((List.range m).all fun i => (List.range m).all fun j => match dstAt ops j with
    | some t => !(looks ops i).contains t || (decide (j < i) && Region.waitsFor .any ops i j)
    | none => true) &&
  ((List.range m).all fun i => (E.map (·.1)).contains i || E.all fun p => !(looks ops i).contains p.2) &&
  (E.all fun p => decide (p.1 < m) && dstAt ops p.1 == some p.2 && (match ops[p.1]? with | some o => o.guard.isNone | none => false)) &&
  decide ((E.map (·.1)).Nodup) &&
  (decide (m = ops.size) || (Region.sinkB .any ops m && Region.chainB .any ops m)) &&
  Region.seqB .any ops (ops.size - m) m ((List.range ops.size).map (fun i => decide (i < m))).toArray

structure Mix (ops : Array Oper) (m : Nat) (E : List (Nat × Tmp)) : Prop where
  noSel : ∀ (j : Nat) (o : Oper) cs b, ops[j]? = some o → o.op ≠ .select cs b
  mle : m ≤ ops.size
  back : ∀ i o, i < m → ops[i]? = some o → ∀ e ∈ o.after, Region.binds .any e = true → e.on < i
  dsts : ∀ i j d, i < m → j < m → i ≠ j → dstAt ops i = some d → dstAt ops j ≠ some d
  data : ∀ i j t o, i < m → j < m → ops[i]? = some o → dstAt ops j = some t → t ∈ o.looksAt ops → j < i ∧ ∃ e ∈ o.after, Region.binds .any e = true ∧ e.on = j
  apart : ∀ i o, i < m → ops[i]? = some o → i ∉ E.map (·.1) → ∀ p ∈ E, p.2 ∉ o.looksAt ops
  ein : ∀ p ∈ E, p.1 < m ∧ dstAt ops p.1 = some p.2 ∧ ∀ o, ops[p.1]? = some o → o.guard = none
  nodup : (E.map (·.1)).Nodup
  sink : m < ops.size → Region.sinkB .any ops m = true ∧ Region.chainB .any ops m = true
  seq : Region.seqB .any ops (ops.size - m) m ((List.range ops.size).map (fun i => decide (i < m))).toArray = true

theorem Region.mixB_spec {m : Nat} {E : List (Nat × Tmp)} (h : Region.mixB ops m E = true) : Mix ops m E := by
  simp only [Region.mixB, Bool.and_eq_true, decide_eq_true_eq] at h
  obtain ⟨⟨⟨⟨⟨⟨⟨⟨⟨h1, h2⟩, h3⟩, h4⟩, h5⟩, h6⟩, h7⟩, h8⟩, h9⟩, h10⟩ := h
  refine ⟨Region.noSelect_spec h1, h2, ?_, ?_, ?_, ?_, ?_, h8, ?_, h10⟩
  · intro i o hi ho e he hb
    have := List.all_eq_true.1 h3 i (List.mem_range.2 hi)
    simp only [ho] at this
    have := Array.all_eq_true_iff_forall_mem.1 this e he
    simp only [hb, Bool.not_true, Bool.false_or, decide_eq_true_eq] at this
    exact this
  · intro i j d hi hj hij hd
    have := List.all_eq_true.1 (List.all_eq_true.1 h4 i (List.mem_range.2 hi)) j (List.mem_range.2 hj)
    rw [hd] at this
    simp [hij] at this
    exact fun h => this h.symm
  · intro i j t o hi hj ho hd ht
    have := List.all_eq_true.1 (List.all_eq_true.1 h5 i (List.mem_range.2 hi)) j (List.mem_range.2 hj)
    simp only [hd, looks, ho, Bool.or_eq_true, Bool.and_eq_true, decide_eq_true_eq] at this
    rcases this with h | ⟨h, h'⟩
    · simp [ht] at h
    · obtain ⟨o', ho', e, he, hb, hon⟩ := Region.waitsFor_spec h'
      obtain rfl : o' = o := Option.some.inj (ho'.symm.trans ho)
      exact ⟨h, e, he, hb, hon⟩
  · intro i o hi ho hE p hp
    have := List.all_eq_true.1 h6 i (List.mem_range.2 hi)
    rw [Bool.or_eq_true] at this
    rcases this with h | h
    · exact absurd (by simpa using h) hE
    · have := List.all_eq_true.1 h p hp
      simpa [looks, ho] using this
  · intro p hp
    have := List.all_eq_true.1 h7 p hp
    simp only [Bool.and_eq_true, decide_eq_true_eq, beq_iff_eq] at this
    refine ⟨this.1.1, this.1.2, fun o ho => ?_⟩
    have h := this.2
    rw [ho] at h
    simpa using h
  · intro hm
    simp only [Bool.or_eq_true, decide_eq_true_eq, Bool.and_eq_true] at h9
    rcases h9 with h | h
    · omega
    · exact h

theorem getD_put (a : Act) (d : Option Tmp) (v : Value) (t : Tmp) : (a.put d v).tmps.getD t undef = if d = some t ∧ t < a.tmps.size then v else a.tmps.getD t undef := by
  cases d with
  | none => simp [Act.put]
  | some d =>
    simp only [Act.put, Option.some.injEq]
    by_cases h : d = t
    · subst h
      by_cases hs : d < a.tmps.size
      · simp [hs]
      · simp [hs]
    · simp [h, Array.getElem?_setIfInBounds_ne h]
theorem size_put (a : Act) (d : Option Tmp) (v : Value) : (a.put d v).tmps.size = a.tmps.size := by
  cases d <;> simp [Act.put]
theorem defers_put (a : Act) (d : Option Tmp) (v : Value) : (a.put d v).defers = a.defers := by
  cases d <;> rfl

theorem frameOf_size (E : List (Nat × Tmp)) (u : Nat → Value) : ∀ a : Act, (frameOf E u a).tmps.size = a.tmps.size := by
  induction E with
  | nil => intro a; rfl
  | cons p E ih => intro a; show (frameOf E u _).tmps.size = _; rw [ih, size_put]
theorem frameOf_defers (E : List (Nat × Tmp)) (u : Nat → Value) : ∀ a : Act, (frameOf E u a).defers = a.defers := by
  induction E with
  | nil => intro a; rfl
  | cons p E ih => intro a; show (frameOf E u _).defers = _; rw [ih, defers_put]
theorem frameOf_other (E : List (Nat × Tmp)) (u : Nat → Value) (t : Tmp) (h : ∀ p ∈ E, p.2 ≠ t) : ∀ a : Act, (frameOf E u a).tmps.getD t undef = a.tmps.getD t undef := by
  induction E with
  | nil => intro a; rfl
  | cons p E ih =>
    intro a
    show (frameOf E u _).tmps.getD t undef = _
    rw [ih (fun q hq => h q (List.mem_cons_of_mem _ hq)), getD_put]
    have := h p List.mem_cons_self
    simp [this]
theorem frameOf_at (E : List (Nat × Tmp)) (u : Nat → Value) (p : Nat × Tmp) (hp : p ∈ E) (hd : ∀ q ∈ E, q.2 = p.2 → q = p) :
    ∀ a : Act, p.2 < a.tmps.size → (frameOf E u a).tmps.getD p.2 undef = u p.1 := by
  induction E with
  | nil => cases hp
  | cons q E ih =>
    intro a hs
    show (frameOf E u _).tmps.getD p.2 undef = _
    by_cases hmem : p ∈ E
    · exact ih hmem (fun q hq => hd q (List.mem_cons_of_mem _ hq)) _ (by rw [size_put]; exact hs)
    · have hq : q = p := by
        rcases List.mem_cons.1 hp with h | h
        · exact h.symm
        · exact absurd h hmem
      subst hq
      rw [frameOf_other E u q.2 (fun r hr he => hmem (by rw [← hd r (List.mem_cons_of_mem _ hr) he]; exact hr)), getD_put]
      simp [hs]

/-- What the lexical walk of the quiet operations tells of each of them. -/
theorem quiet_facts {C : World → Prop} {ah : Act} {m : Nat} {E : List (Nat × Tmp)} (M : Mix ops m E) : ∀ (r : List Oper) (k : Nat) (b : Act), (∀ j, j < r.length → r[j]? = ops[k + j]?) → k + r.length = m →
    wpQuiet P ops C (fun a' => a' = ah) (selFrom (E.map (·.1)) k r) b →
    b.tmps.size = ah.tmps.size ∧ b.defers = ah.defers ∧ (∀ t, (∀ j, k ≤ j → j < m → j ∉ E.map (·.1) → dstAt ops j ≠ some t) → b.tmps.getD t undef = ah.tmps.getD t undef) ∧
    ∀ i o, k ≤ i → i < m → i ∉ E.map (·.1) → ops[i]? = some o → ∃ b' v, (if Region.wanted o (yielded ops b'.tmps) then ∀ w, C w → o.quietAt P b' C w v else v = undef) ∧
      (∀ t, (∀ j, i ≤ j → j < m → j ∉ E.map (·.1) → dstAt ops j ≠ some t) → b'.tmps.getD t undef = ah.tmps.getD t undef) ∧ (∀ d, o.dst = some d → d < ah.tmps.size → ah.tmps.getD d undef = v)
  | [], k, b, _, hk, h => by
    have hb : b = ah := h
    subst hb
    exact ⟨rfl, rfl, fun _ _ => rfl, fun i o h1 h2 => by simp at hk; omega⟩
  | o :: r, k, b, hr, hk, h => by
    have ho : ops[k]? = some o := by simpa using (hr 0 (by simp)).symm
    have hr' : ∀ j, j < r.length → r[j]? = ops[k + 1 + j]? := fun j hj => by
      have := hr (j + 1) (by simp <;> omega)
      simpa [Nat.add_assoc, Nat.add_comm 1 j] using this
    have hkm : k < m := by simp only [List.length_cons] at hk; omega
    simp only [List.length_cons] at hk
    unfold selFrom at h
    by_cases hE : (E.map (·.1)).contains k = true
    · rw [if_pos hE] at h
      obtain ⟨h1, h2, h3, h4⟩ := quiet_facts M r (k + 1) b hr' (by omega) h
      have hEk : k ∈ E.map (·.1) := by simpa using hE
      refine ⟨h1, h2, fun t ht => h3 t (fun j hj hjm hjE => ht j (by omega) hjm hjE), fun i oi hi him hiE hoi => ?_⟩
      have : i ≠ k := fun e => hiE (e ▸ hEk)
      exact h4 i oi (by omega) him hiE hoi
    · rw [if_neg hE] at h
      have hEk : k ∉ E.map (·.1) := by simpa using hE
      obtain ⟨v, hv, hrest⟩ : ∃ v, (if Region.wanted o (yielded ops b.tmps) then ∀ w, C w → o.quietAt P b C w v else v = undef) ∧ wpQuiet P ops C (fun a' => a' = ah) (selFrom (E.map (·.1)) (k + 1) r) (b.put o.dst v) := by
        unfold wpQuiet at h
        split at h
        · rename_i hw
          obtain ⟨v, h1, h2⟩ := h
          exact ⟨v, by rw [if_pos hw]; exact h1, h2⟩
        · rename_i hw
          exact ⟨undef, by rw [if_neg hw], h⟩
      obtain ⟨h1, h2, h3, h4⟩ := quiet_facts M r (k + 1) _ hr' (by omega) hrest
      rw [size_put] at h1
      rw [defers_put] at h2
      have hdk : dstAt ops k = o.dst := by simp [dstAt, ho]
      have hb : ∀ t, (∀ j, k ≤ j → j < m → j ∉ E.map (·.1) → dstAt ops j ≠ some t) → b.tmps.getD t undef = ah.tmps.getD t undef := fun t ht => by
        have := h3 t (fun j hj hjm hjE => ht j (by omega) hjm hjE)
        rw [getD_put, if_neg (fun hc => ht k (Nat.le_refl _) hkm hEk (by rw [hdk]; exact hc.1))] at this
        exact this
      refine ⟨h1, h2, hb, fun i oi hi him hiE hoi => ?_⟩
      by_cases hik : i = k
      · subst hik
        obtain rfl : o = oi := Option.some.inj (ho.symm.trans hoi)
        refine ⟨b, v, hv, hb, fun d hd hlt => ?_⟩
        have := h3 d (fun j hj hjm hjE hjd => M.dsts i j d him hjm (by omega) (by rw [hdk]; exact hd) hjd)
        rw [getD_put, if_pos ⟨hd, by rw [h1]; exact hlt⟩] at this
        exact this.symm
      · exact h4 i oi (by omega) him hiE hoi

theorem eval_agree {a b : Act} {x : Operand} (h : ∀ t, x = .tmp t → a.tmps.getD t undef = b.tmps.getD t undef) : a.eval x = b.eval x := by
  cases x with
  | tmp t => exact h t rfl
  | _ => rfl
theorem execOp_agree {o : Oper} (hs : ∀ cs b, o.op ≠ .select cs b) {a b : Act} (h : ∀ t ∈ o.looksAt ops, a.tmps.getD t undef = b.tmps.getD t undef) : execOp a.eval o = execOp b.eval o :=
  execOp_congr o hs fun x hx => eval_agree fun t ht => h t (by
    subst ht
    exact List.mem_append_left _ (List.mem_filterMap.2 ⟨.tmp t, by simpa using hx, rfl⟩))
theorem wanted_agree {o : Oper} {a b : Act} (h : ∀ t ∈ o.looksAt ops, a.tmps.getD t undef = b.tmps.getD t undef) : Region.wanted o (yielded ops a.tmps) = Region.wanted o (yielded ops b.tmps) := by
  unfold Region.wanted
  cases hg : o.guard with
  | none => rfl
  | some gw =>
    obtain ⟨g, want⟩ := gw
    have hy : yielded ops a.tmps g = yielded ops b.tmps g := by
      unfold yielded
      cases ht : (ops[g]?).bind (·.dst) with
      | none => rfl
      | some t =>
        have := h t (by simp [Oper.looksAt, hg, ht])
        simp only [Array.getD_eq_getD_getElem?] at this
        have key : ∀ x y : Option Value, x.getD undef = y.getD undef → (match x with | some (.bool b) => some b | _ => none : Option Bool) = (match y with | some (.bool b) => some b | _ => none) := by
          intro x y h
          cases x <;> cases y <;> simp [undef] at h ⊢
          · subst h; rfl
          · subst h; rfl
          · subst h; rfl
        exact key _ _ this
    simp only [hy]

/-- The state of a head in the middle of whatever order: the frame agrees with the final one wherever nothing is pending. -/
structure MixInv (ops : Array Oper) (m : Nat) (E : List (Nat × Tmp)) (V : Nat → (Nat → Value) → World → Prop) (W : World) (ah : Act) (listed : Array Bool) (a : Act) (w : World) (u : Nat → Value) : Prop where
  head : HeadInv .any ops m listed
  size : a.tmps.size = ah.tmps.size
  defers : a.defers = ah.defers
  agree : ∀ t, (∀ j, j < m → dstAt ops j = some t → listed.getD j false = true) → a.tmps.getD t undef = (frameOf E u ah).tmps.getD t undef
  world : Ext W w
  known : ∀ e ∈ E.map (·.1), listed.getD e false = true → V e u w
  fresh : ∀ e ∈ E.map (·.1), listed.getD e false = false → u e = undef

def pending (m : Nat) (listed : Array Bool) : List Nat := (List.range m).filter fun i => !(listed.getD i false)

theorem pending_set {m i : Nat} {listed : Array Bool} (hi : i < m) (hs : m ≤ listed.size) (hun : listed.getD i false = false) : (pending m (listed.setIfInBounds i true)).length + 1 = (pending m listed).length := by
  have key : ∀ (l : List Nat), l.Nodup → (l.filter fun j => !((listed.setIfInBounds i true).getD j false)).length + (if i ∈ l then 1 else 0) = (l.filter fun j => !(listed.getD j false)).length := by
    intro l
    induction l with
    | nil => intro _; simp
    | cons x l ih =>
      intro hn
      have hn' := List.nodup_cons.1 hn
      have := ih hn'.2
      by_cases hx : x = i
      · subst hx
        have hx : (listed.setIfInBounds x true).getD x false = true := by simp [show x < listed.size by omega]
        rw [if_neg hn'.1] at this
        rw [List.filter_cons_of_neg (by simp [hx]), List.filter_cons_of_pos (by simp [hun]), if_pos List.mem_cons_self, List.length_cons]
        omega
      · have e1 : (listed.setIfInBounds i true).getD x false = listed.getD x false := getD_set_ne false (Ne.symm hx)
        have e2 : (i ∈ x :: l) ↔ i ∈ l := by simp [Ne.symm hx]
        simp only [List.filter_cons, e1, e2]
        split <;> (try simp only [List.length_cons]) <;> omega
  have := key (List.range m) List.nodup_range
  rw [if_pos (List.mem_range.2 hi)] at this
  exact this

theorem mix_all {m : Nat} {E : List (Nat × Tmp)} (M : Mix ops m E) {V : Nat → (Nat → Value) → World → Prop} {W : World} {ah : Act} {Q : Exit → Act → World → Prop} {tl : List Oper}
    (htl : ∀ j, tl[j]? = ops[m + j]?) (hlen : tl.length = ops.size - m)
    (hq : ∀ x0, ∀ i o, i < m → i ∉ E.map (·.1) → ops[i]? = some o → ∃ b' v, (if Region.wanted o (yielded ops b'.tmps) then ∀ w, (∃ y, w = (W.ext x0).ext y) → o.quietAt P b' (fun w' => ∃ y, w' = (W.ext x0).ext y) w v else v = undef) ∧
      (∀ t, (∀ j, i ≤ j → j < m → j ∉ E.map (·.1) → dstAt ops j ≠ some t) → b'.tmps.getD t undef = ah.tmps.getD t undef) ∧ (∀ d, o.dst = some d → d < ah.tmps.size → ah.tmps.getD d undef = v))
    (hst : ∀ e ∈ E.map (·.1), ∀ u w w', Ext w w' → V e u w → V e u w')
    (hE : ∀ e o, e ∈ E.map (·.1) → ops[e]? = some o → ∀ u w, Ext W w → (∀ i ∈ E.map (·.1), (Region.waitsFor .any ops e i = true → V i u w) ∧ (V i u w ∨ u i = undef)) →
      o.extAt P (frameOf E u ah) w (fun v w' => V e (upd u e v) w' ∧ ∀ j ∈ E.map (·.1), j ≠ e → Region.waitsFor .any ops j e = false → V j u w → V j (upd u e v) w'))
    (ht : ∀ u w, Ext W w → (∀ e ∈ E.map (·.1), V e u w) → wpList P ops Q tl (frameOf E u ah) w) :
    ∀ (f : Nat) (listed : Array Bool) (a : Act) (w : World) (u : Nat → Value), (pending m listed).length = f → MixInv ops m E V W ah listed a w u → wpAny P .any ops Q (f + (ops.size - m)) listed a w := by
  intro f
  induction f with
  | zero =>
    intro listed a w u hp inv
    have hall : ∀ j, j < m → listed.getD j false = true := fun j hj => by
      cases h : listed.getD j false with
      | true => rfl
      | false =>
        have : j ∈ pending m listed := List.mem_filter.2 ⟨List.mem_range.2 hj, by simp only [h]; rfl⟩
        rw [List.eq_nil_of_length_eq_zero hp] at this
        cases this
    have hl : listed = ((List.range ops.size).map (fun i => decide (i < m))).toArray := by
      apply Array.ext
      · simp [inv.head.size]
      · intro i h1 h2
        have hi : i < ops.size := by rw [← inv.head.size]; exact h1
        simp only [List.getElem_toArray, List.getElem_map, List.getElem_range]
        by_cases him : i < m
        · have := hall i him
          simp [h1] at this
          simp [this, him]
        · have := inv.head.tail i (by omega) hi
          simp [h1] at this
          simp [this, him]
    have ha : a = frameOf E u ah := by
      have hs : a.tmps.size = (frameOf E u ah).tmps.size := by rw [frameOf_size, inv.size]
      have ht' : a.tmps = (frameOf E u ah).tmps := by
        apply Array.ext hs
        intro i h1 h2
        have := inv.agree i (fun j hj _ => hall j hj)
        simpa [h1, h2] using this
      have hd : a.defers = (frameOf E u ah).defers := by rw [frameOf_defers, inv.defers]
      cases a
      simp only at ht' hd
      rw [ht', hd]
    rw [Nat.zero_add, ← hlen]
    have hseq := M.seq
    rw [← hl, ← hlen] at hseq
    rw [ha]
    exact wpAny_of_seq tl m listed _ w htl hseq (ht u w inv.world (fun e he => inv.known e he (hall e (by
      obtain ⟨p, hp, rfl⟩ := List.mem_map.1 he
      exact (M.ein p hp).1))))
  | succ f ih =>
    intro listed a w u hp inv
    have hsz := inv.head.size
    rw [show f + 1 + (ops.size - m) = (f + (ops.size - m)) + 1 by omega]
    -- the least pending one is ready
    obtain ⟨i0, hi0m, hi0u, hi0⟩ : ∃ i, i < m ∧ listed.getD i false = false ∧ ∀ j, j < i → listed.getD j false = true := by
      have hne : ∃ i, i < m ∧ listed.getD i false = false := by
        cases hl : pending m listed with
        | nil => rw [hl] at hp; simp at hp
        | cons x l =>
          have : x ∈ pending m listed := by rw [hl]; exact List.mem_cons_self
          obtain ⟨h1, h2⟩ := List.mem_filter.1 this
          exact ⟨x, List.mem_range.1 h1, by simpa using h2⟩
      obtain ⟨i, hi⟩ := hne
      have : ∀ n i, i ≤ n → (i < m ∧ listed.getD i false = false) → ∃ i, i < m ∧ listed.getD i false = false ∧ ∀ j, j < i → listed.getD j false = true := by
        intro n
        induction n with
        | zero => intro i hin hi; exact ⟨i, hi.1, hi.2, fun j hj => by omega⟩
        | succ n ihn =>
          intro i hin hi
          by_cases hex : ∃ j, j < i ∧ listed.getD j false = false
          · obtain ⟨j, hj, hju⟩ := hex
            exact ihn j (by omega) ⟨by omega, hju⟩
          · refine ⟨i, hi.1, hi.2, fun j hj => ?_⟩
            cases h : listed.getD j false with
            | true => rfl
            | false => exact absurd ⟨j, hj, h⟩ hex
      exact this i i (Nat.le_refl _) hi
    have hready0 : i0 ∈ Region.ready .any ops listed := by
      rw [mem_ready]
      have hlt : i0 < ops.size := Nat.lt_of_lt_of_le hi0m M.mle
      refine ⟨getD_in (by omega) hi0u, ops[i0], by simp [hlt], fun e he hb => hi0 _ (M.back i0 _ hi0m (by simp [hlt]) e he hb)⟩
    refine ⟨fun h => (by rw [h] at hready0; cases hready0), fun i hi => ?_⟩
    obtain ⟨hun, o, ho, hpre⟩ := mem_ready.1 hi
    have him : i < m := by
      rcases Nat.lt_or_ge i m with h | h
      · exact h
      · have hms : m < ops.size := by have := (Array.getElem?_eq_some_iff.1 ho).1; omega
        exact absurd hi (tail_waits (M.sink hms).1 (M.sink hms).2 hms inv.head _ i0 rfl hi0m (getD_in (by omega) hi0u) i h)
    have hun' := getD_both hun
    have hpend : (pending m (listed.setIfInBounds i true)).length = f := by
      have := pending_set him (by rw [hsz]; exact M.mle) hun'
      omega
    have hdo : dstAt ops i = o.dst := by simp [dstAt, ho]
    -- the frame at hand agrees with the final one on all that i looks at
    have hlook : ∀ t ∈ o.looksAt ops, a.tmps.getD t undef = (frameOf E u ah).tmps.getD t undef := fun t ht' => inv.agree t fun j hj hd => by
      obtain ⟨_, e, he, hb, hon⟩ := M.data i j t o him hj ho hd ht'
      rw [← hon]
      exact hpre e he hb
    -- what is kept when i yields v
    have hnext : ∀ v w' u', Ext w w' → (∀ j ∈ E.map (·.1), j ≠ i → listed.getD j false = true → V j u' w') → (i ∈ E.map (·.1) → V i u' w') → (∀ p ∈ E, p.1 ≠ i → u' p.1 = u p.1) →
        (∀ d, o.dst = some d → d < ah.tmps.size → (frameOf E u' ah).tmps.getD d undef = v) →
        MixInv ops m E V W ah (listed.setIfInBounds i true) (a.put o.dst v) w' u' := fun v w' u' hw hV hVi hu hdv => by
      refine ⟨inv.head.set hi him, by rw [size_put, inv.size], by rw [defers_put, inv.defers], fun t ht' => ?_, inv.world.trans hw, fun e he hl => ?_, fun e he hl => ?_⟩
      · rw [getD_put]
        by_cases hd : o.dst = some t
        · by_cases hlt : t < ah.tmps.size
          · rw [if_pos ⟨hd, by rw [inv.size]; exact hlt⟩, hdv t hd hlt]
          · have e1 : a.tmps.getD t undef = undef := by simp [show ¬ t < a.tmps.size by rw [inv.size]; exact hlt]
            have e2 : (frameOf E u' ah).tmps.getD t undef = undef := by simp [show ¬ t < (frameOf E u' ah).tmps.size by rw [frameOf_size]; exact hlt]
            rw [if_neg (fun h => by rw [inv.size] at h; exact hlt h.2), e1, e2]
        · rw [if_neg (fun h => hd h.1), inv.agree t (fun j hj hdj => by
            have := ht' j hj hdj
            by_cases hij : i = j
            · subst hij; rw [hdo] at hdj; exact absurd hdj hd
            · rwa [getD_set_ne false hij] at this)]
          by_cases hp : ∃ p ∈ E, p.2 = t
          · obtain ⟨p, hp, rfl⟩ := hp
            have hpd := (M.ein p hp).2.1
            have hpi : p.1 ≠ i := fun e => by rw [e, hdo] at hpd; exact hd hpd
            have huniq : ∀ q ∈ E, q.2 = p.2 → q = p := fun q hq hqp => by
              have hqd := (M.ein q hq).2.1
              by_cases hqp1 : q.1 = p.1
              · exact Prod.ext hqp1 hqp
              · exact absurd (by rw [hqp] at hqd; exact hpd) (M.dsts q.1 p.1 p.2 (M.ein q hq).1 (M.ein p hp).1 hqp1 (by rw [← hqp]; exact (M.ein q hq).2.1))
            by_cases hlt : p.2 < ah.tmps.size
            · rw [frameOf_at E u p hp huniq ah hlt, frameOf_at E u' p hp huniq ah hlt, hu p hp hpi]
            · have e1 : ∀ u : Nat → Value, (frameOf E u ah).tmps.getD p.2 undef = undef := fun u => by simp [show ¬ p.2 < (frameOf E u ah).tmps.size by rw [frameOf_size]; exact hlt]
              rw [e1, e1]
          · have hp' : ∀ p ∈ E, p.2 ≠ t := fun p h e => hp ⟨p, h, e⟩
            rw [frameOf_other E u t hp', frameOf_other E u' t hp']
      · by_cases hei : e = i
        · subst hei; exact hVi he
        · rw [getD_set_ne false (Ne.symm hei)] at hl
          exact hV e he hei hl
      · have hei : e ≠ i := fun h => by
          subst h
          have hs : e < listed.size := by rw [hsz]; exact Nat.lt_of_lt_of_le him M.mle
          simp [hs] at hl
        rw [getD_set_ne false (Ne.symm hei)] at hl
        obtain ⟨p, hp, rfl⟩ := List.mem_map.1 he
        rw [hu p hp hei]
        exact inv.fresh _ he hl
    unfold wpOp
    rw [ho]
    show if Region.wanted o (yielded ops a.tmps) = true then _ else _
    by_cases hiE : i ∈ E.map (·.1)
    · obtain ⟨p, hp, hpi⟩ := List.mem_map.1 hiE
      obtain ⟨_, hpd, hg⟩ := M.ein p hp
      have hw : Region.wanted o (yielded ops a.tmps) = true := by simp [Region.wanted, hg o (by rw [hpi]; exact ho)]
      rw [if_pos hw]
      refine .inl ?_
      have hx := hE i o hiE ho u w inv.world (fun j hj => ⟨fun hwj => inv.known j hj (by
        obtain ⟨o', ho', e, he, hb, hon⟩ := Region.waitsFor_spec hwj
        obtain rfl : o' = o := Option.some.inj (ho'.symm.trans ho)
        rw [← hon]
        exact hpre e he hb), by
        cases hl : listed.getD j false with
        | true => exact .inl (inv.known j hj hl)
        | false => exact .inr (inv.fresh j hj hl)⟩)
      unfold Oper.extAt at hx
      rw [← execOp_agree (fun cs b => M.noSel i o cs b ho) hlook] at hx
      have hfin : ∀ v w', Ext w w' → (V i (upd u i v) w' ∧ ∀ j ∈ E.map (·.1), j ≠ i → Region.waitsFor .any ops j i = false → V j u w → V j (upd u i v) w') → wpAny P .any ops Q (f + (ops.size - m)) (listed.setIfInBounds i true) (a.put o.dst v) w' := fun v w' hw' hV => by
        refine ih _ _ _ (upd u i v) hpend (hnext v w' (upd u i v) hw' (fun j hj hji hl => ?_) (fun _ => hV.1) (fun q _ hq => by simp [upd, hq]) (fun d hd hlt => ?_))
        · have hwf : Region.waitsFor .any ops j i = false := by
            cases hwf : Region.waitsFor .any ops j i with
            | false => rfl
            | true =>
              obtain ⟨o', ho', e, he, hb, hon⟩ := Region.waitsFor_spec hwf
              have := inv.head.closed j o' ho' hl e he hb
              rw [hon, hun'] at this
              cases this
          exact hV.2 j hj hji hwf (inv.known j hj hl)
        · have hdp : p.2 = d := by
            rw [hpi, hdo] at hpd
            rw [hd] at hpd
            exact (Option.some.inj hpd).symm
          have huniq : ∀ q ∈ E, q.2 = p.2 → q = p := fun q hq hqp => by
            have hqd := (M.ein q hq).2.1
            by_cases hqp1 : q.1 = p.1
            · exact Prod.ext hqp1 hqp
            · exact absurd (M.ein p hp).2.1 (M.dsts q.1 p.1 p.2 (M.ein q hq).1 (M.ein p hp).1 hqp1 (by rw [← hqp]; exact (M.ein q hq).2.1))
          subst hdp
          rw [frameOf_at E _ p hp huniq ah hlt, hpi]
          simp [upd]
      unfold Oper.wp
      generalize (execOp a.eval o).run P w = r at hx ⊢
      cases r with
      | ok n w' =>
        cases n <;> simp only [Oper.extUpon] at hx <;> simp only [Oper.upon]
        case value v => exact hfin v w' hx.1 hx.2
        case enter f' args =>
          obtain ⟨rfl, hc⟩ := hx
          exact hc.mono fun e w'' ⟨v, he, hw', hV⟩ => by subst he; exact hfin v w'' hw' hV
      | halt x w' => simp only [Oper.extUpon] at hx
    · obtain ⟨x, hx⟩ := inv.world
      obtain ⟨b', v, h1, h2, h3⟩ := hq x i o him hiE ho
      have hb : ∀ t ∈ o.looksAt ops, a.tmps.getD t undef = b'.tmps.getD t undef := fun t ht' => by
        rw [hlook t ht', h2 t (fun j hij hjm hjE hd => by
          have := (M.data i j t o him hjm ho hd ht').1
          omega), frameOf_other E u t (fun p hp he => M.apart i o him ho hiE p hp (by rw [he]; exact ht'))]
      have hfin : ∀ w', Ext w w' → wpAny P .any ops Q (f + (ops.size - m)) (listed.setIfInBounds i true) (a.put o.dst v) w' := fun w' hw' => by
        refine ih _ _ _ u hpend (hnext v w' u hw' (fun j hj _ hl => hst j hj u w w' hw' (inv.known j hj hl)) (fun h => absurd h hiE) (fun _ _ _ => rfl) (fun d hd hlt => ?_))
        rw [frameOf_other E u d (fun p hp he => by
          have hpd := (M.ein p hp).2.1
          have hpi : p.1 ≠ i := fun e => hiE (e ▸ List.mem_map.2 ⟨p, hp, rfl⟩)
          exact M.dsts p.1 i p.2 (M.ein p hp).1 him hpi hpd (by rw [hdo, he]; exact hd))]
        exact h3 d hd hlt
      rw [wanted_agree hb]
      by_cases hw : Region.wanted o (yielded ops b'.tmps) = true
      · rw [if_pos hw] at h1 ⊢
        refine .inl ?_
        have hy := h1 w ⟨_, by rw [← hx]; exact (ext_same w).symm⟩
        unfold Oper.quietAt at hy
        rw [← execOp_agree (fun cs b => M.noSel i o cs b ho) hb, ← hx] at hy
        unfold Oper.wp
        generalize (execOp a.eval o).run P w = r at hy ⊢
        cases r with
        | ok n w' =>
          cases n <;> simp only [Oper.quietUpon] at hy <;> simp only [Oper.upon]
          case value u' => obtain ⟨rfl, rfl⟩ := hy; exact hfin w' (Ext.refl _)
          case skip => obtain ⟨rfl, rfl⟩ := hy; exact hfin w' (Ext.refl _)
          case enter f' args =>
            obtain ⟨rfl, hc⟩ := hy
            exact hc.mono fun e w'' ⟨he, hw'⟩ => by subst he; exact hfin w'' hw'
        | halt x w' => simp only [Oper.quietUpon] at hy
      · rw [if_neg hw] at h1 ⊢
        rw [← h1]
        exact hfin w (Ext.refl _)

/-- A callee of the quiet walk. -/
theorem quiet_call {f : FuncId} {args : Array Value} {W : World} {x y : Grow} {v : Value}
    (h : Calls P f args ((W.ext x).ext y) fun e w' => e = .returned v ∧ Below ((W.ext x).ext y).heap.size ((W.ext x).ext y) w') :
    Calls P f args ((W.ext x).ext y) fun e w' => e = .returned v ∧ ∃ z, w' = (W.ext x).ext z :=
  h.mono fun e w' ⟨he, hb⟩ => by
    obtain ⟨z, rfl⟩ := Ext.of_below hb
    exact ⟨he, _, ext_ext _ _ _⟩
theorem quiet_call_same {f : FuncId} {args : Array Value} {W : World} {x y : Grow} {v : Value}
    (h : Calls P f args ((W.ext x).ext y) fun e w' => e = .returned v ∧ ((W.ext x).ext y) = w') :
    Calls P f args ((W.ext x).ext y) fun e w' => e = .returned v ∧ ∃ z, w' = (W.ext x).ext z :=
  h.mono fun e w' ⟨he, hb⟩ => ⟨he, y, hb.symm⟩
theorem quiet_call1 {f : FuncId} {args : Array Value} {W : World} {x : Grow} {v : Value}
    (h : Calls P f args (W.ext x) fun e w' => e = .returned v ∧ Below (W.ext x).heap.size (W.ext x) w') :
    Calls P f args (W.ext x) fun e w' => e = .returned v ∧ ∃ z, w' = W.ext z :=
  h.mono fun e w' ⟨he, hb⟩ => by
    obtain ⟨z, rfl⟩ := Ext.of_below hb
    exact ⟨he, _, ext_ext _ _ _⟩
theorem quiet_callE {f : FuncId} {args : Array Value} {W : World} {x : Grow} {v : Value}
    (h : Calls P f args (W.ext x) fun e w' => e = .returned v ∧ ∃ y, w' = (W.ext x).ext y) :
    Calls P f args (W.ext x) fun e w' => e = .returned v ∧ ∃ z, w' = W.ext z :=
  h.mono fun e w' ⟨he, y, hy⟩ => ⟨he, _, hy.trans (ext_ext _ _ _)⟩
/-- A region that draws its order and only reads, or calls what makes memory and hands back plain values: one walk. -/
theorem wp_region_grow {id : Nat} {l : List Oper} {Q : Exit → Act → World → Prop} {a : Act} {W : World} (hm : P.follows .mixedOrders = true) (hB : Region.lexB .any l.toArray = true)
    (h : wpQuiet P l.toArray (fun w' => ∃ x, w' = W.ext x) (fun a' => ∀ w', (∃ x, w' = W.ext x) → Q .normal a' w') l a) : (Code.region id l.toArray true).wp P Q a W :=
  wp_region_quiet (C := fun w' => ∃ x, w' = W.ext x) hm hB (Ext.drew W) (by simpa using h)
theorem below_drewN {B : Nat} {a w : World} (h : Below B a w) (n : Nat) : Below B a (w.drewN n) := ⟨h.os, h.tape, h.output, h.size, h.block⟩
theorem ret_int {k : IntKind} {a b : Int} (h : a = b) : Ending.returned (.int k a) = .returned (.int k b) := by rw [h]
theorem ret_bool {a b : Bool} (h : a = b) : Ending.returned (.bool a) = .returned (.bool b) := by rw [h]
theorem below_ext2 {B : Nat} {w W : World} (h : Below B w W) (hB : B ≤ W.heap.size) (x y : Grow) : Below B w ((W.ext x).ext y) :=
  ext_below' (ext_below' h hB x) (by rw [ext_size]; omega) y
theorem extAt_alloc {o : Oper} {a : Act} {w : World} {V : Value → World → Prop} {T : TypeId} {cs : Array Value} (ho : o.op = .alloc T)
    (hr : ∀ w, (Instr.alloc T true (.tuple #[])).run P w = .ok (.pointer (some ⟨w.heap.size, 0, none⟩)) (w.alloc (.cells cs T)))
    (hV : V (.pointer (some ⟨w.heap.size, 0, none⟩)) (w.alloc (.cells cs T))) : o.extAt P a w V := by
  unfold Oper.extAt execOp
  rw [ho]
  have : (do pure (Next.value (← Instr.alloc T true (.tuple #[]))) : Sem Next).run P w = .ok (.value (.pointer (some ⟨w.heap.size, 0, none⟩))) (w.alloc (.cells cs T)) := by
    simp only [Sem.run_bind, hr, Result.andThen_ok, Sem.run_pure]
  show Oper.extUpon P w V ((do pure (Next.value (← Instr.alloc T true (.tuple #[]))) : Sem Next).run P w)
  rw [this]
  exact ⟨Ext.alloc _ _, hV⟩

/-- **THE LAW.** m operations in whatever order (those of E, at (number, slot), hang on the world; the others are quiet), then the rest in their own order. -/
theorem wp_region_mix {id : Nat} {l : List Oper} {Q : Exit → Act → World → Prop} {a : Act} {W : World} (m : Nat) (E : List (Nat × Tmp)) (hs tl : List Oper) (V : Nat → (Nat → Value) → World → Prop)
    (hm : P.follows .mixedOrders = true) (hB : Region.mixB l.toArray m E = true) (hhs : selFrom (E.map (·.1)) 0 (l.take m) = hs) (htl : l.drop m = tl)
    (hst : ∀ e ∈ E.map (·.1), ∀ u w w', Ext w w' → V e u w → V e u w')
    (h : ∃ ah, (∀ x0, wpQuiet P l.toArray (fun w' => ∃ y, w' = (W.ext x0).ext y) (fun a' => a' = ah) hs a) ∧
      (∀ u w, Ext W w → ∀ e ∈ E.map (·.1), ∀ o, l.toArray[e]? = some o → (∀ i ∈ E.map (·.1), (Region.waitsFor .any l.toArray e i = true → V i u w) ∧ (V i u w ∨ u i = undef)) →
        o.extAt P (frameOf E u ah) w (fun v w' => V e (upd u e v) w' ∧ ∀ j ∈ E.map (·.1), j ≠ e → Region.waitsFor .any l.toArray j e = false → V j u w → V j (upd u e v) w')) ∧
      (∀ u w, Ext W w → (∀ e ∈ E.map (·.1), V e u w) → wpList P l.toArray Q tl (frameOf E u ah) w)) : (Code.region id l.toArray true).wp P Q a W := by
  obtain ⟨ah, hq, hE, ht⟩ := h
  have M := Region.mixB_spec hB
  subst hhs
  subst htl
  have hm' : m ≤ l.length := by simpa using M.mle
  have hlen : (l.take m).length = m := by simp; omega
  have hf := fun x0 => quiet_facts M (l.take m) 0 a (fun j hj => by
    have hj' : j < m := by rw [hlen] at hj; exact hj
    simp [hj']) (by rw [hlen]; omega) (hq x0)
  refine wp_region_any hm ?_
  obtain ⟨h1, h2, h3, _⟩ := hf ⟨#[], W.drawn⟩
  have hpend : (pending m (Array.replicate l.toArray.size false)).length = m := by
    have : pending m (Array.replicate l.toArray.size false) = List.range m := List.filter_eq_self.2 fun j _ => by rw [getD_replicate_false]; rfl
    rw [this, List.length_range]
  have H := mix_all M (Q := Q) (V := V) (W := W) (ah := ah) (tl := l.drop m) (fun j => by simp [List.getElem?_drop]) (by simp)
    (fun x0 i o hi hiE ho => (hf x0).2.2.2 i o (Nat.zero_le _) hi hiE ho) hst (fun e o he ho u w hw hi => hE u w hw e he o ho hi) ht m (Array.replicate l.toArray.size false) a { W with drawn := W.drawn + 1 } (fun _ => undef) hpend
    ⟨⟨by simp, fun j oj _ hl => (by rw [getD_replicate_false] at hl; cases hl), fun t _ ht => getD_in (by simpa using ht) (getD_replicate_false _ _)⟩, h1, h2, fun t htt => by
      rw [h3 t (fun j _ hj _ hd => by have := htt j hj hd; rw [getD_replicate_false] at this; cases this), frameOf_other E _ t (fun p hp he => by
        have := htt p.1 (M.ein p hp).1 (by rw [← he]; exact (M.ein p hp).2.1)
        rw [getD_replicate_false] at this
        cases this)], Ext.drew W, fun e _ hl => (by rw [getD_replicate_false] at hl; cases hl), fun _ _ _ => rfl⟩
  have he : m + (l.toArray.size - m) = l.toArray.size := by have := M.mle; omega
  rw [he] at H
  exact H

/-- The law at one new variable: its block is g, its cells cs. -/
theorem wp_region_alloc1 {id : Nat} {l : List Oper} {Q : Exit → Act → World → Prop} {a : Act} {W : World} (m e : Nat) (d : Tmp) (T : TypeId) (cs : Array Value) (hs tl : List Oper)
    (hm : P.follows .mixedOrders = true) (hB : Region.mixB l.toArray m [(e, d)] = true) (hhs : selFrom [e] 0 (l.take m) = hs) (htl : l.drop m = tl)
    (hop : (l[e]?).map (·.op) = some (.alloc T))
    (hr : ∀ w, (Instr.alloc T true (.tuple #[])).run P w = .ok (.pointer (some ⟨w.heap.size, 0, none⟩)) (w.alloc (.cells cs T)))
    (h : ∃ ah, (∀ x0, wpQuiet P l.toArray (fun w' => ∃ y, w' = (W.ext x0).ext y) (fun a' => a' = ah) hs a) ∧
      (∀ g w1, Ext W w1 → W.heap.size ≤ g → g < w1.heap.size → wpList P l.toArray Q tl (ah.put (some d) (.pointer (some ⟨g, 0, none⟩))) (w1.pin g cs T))) : (Code.region id l.toArray true).wp P Q a W := by
  obtain ⟨ah, hq, ht⟩ := h
  refine wp_region_mix m [(e, d)] hs tl (fun _ u w' => ∃ g, u e = .pointer (some ⟨g, 0, none⟩) ∧ W.heap.size ≤ g ∧ w'.heap[g]? = some (.cells cs T (0, 0))) hm hB hhs htl ?_ ⟨ah, hq, ?_, ?_⟩
  · intro _ _ u w1 w2 hx ⟨g, h1, h2, h3⟩
    exact ⟨g, h1, h2, (hx.below.block g (Array.getElem?_eq_some_iff.1 h3).1).trans h3⟩
  · intro u w1 hw i hi o ho _
    obtain rfl : i = e := by simpa using hi
    have ho' : l[i]? = some o := by simpa using ho
    rw [ho'] at hop
    refine extAt_alloc (Option.some.inj hop) hr ⟨⟨w1.heap.size, by simp only [upd, if_true], hw.size, heap_alloc_new _ _⟩, fun j hj hne => ?_⟩
    exact absurd (by simpa using hj) hne
  · intro u w1 hw hk
    obtain ⟨g, hu, hg, hh⟩ := hk e (by simp)
    have := ht g w1 hw hg (Array.getElem?_eq_some_iff.1 hh).1
    rw [← pin_same _ _ _ _ hh, ← hu] at this
    exact this

/-- The law at two new variables. -/
theorem wp_region_alloc2 {id : Nat} {l : List Oper} {Q : Exit → Act → World → Prop} {a : Act} {W : World} (m e1 e2 : Nat) (d1 d2 : Tmp) (T1 T2 : TypeId) (c1 c2 : Array Value) (hs tl : List Oper)
    (hm : P.follows .mixedOrders = true) (hB : Region.mixB l.toArray m [(e1, d1), (e2, d2)] = true) (hhs : selFrom [e1, e2] 0 (l.take m) = hs) (htl : l.drop m = tl)
    (hop1 : (l[e1]?).map (·.op) = some (.alloc T1)) (hop2 : (l[e2]?).map (·.op) = some (.alloc T2))
    (hr1 : ∀ w, (Instr.alloc T1 true (.tuple #[])).run P w = .ok (.pointer (some ⟨w.heap.size, 0, none⟩)) (w.alloc (.cells c1 T1)))
    (hr2 : ∀ w, (Instr.alloc T2 true (.tuple #[])).run P w = .ok (.pointer (some ⟨w.heap.size, 0, none⟩)) (w.alloc (.cells c2 T2)))
    (h : ∃ ah, (∀ x0, wpQuiet P l.toArray (fun w' => ∃ y, w' = (W.ext x0).ext y) (fun a' => a' = ah) hs a) ∧
      (∀ g1 g2 w1, Ext W w1 → W.heap.size ≤ g1 → g1 < w1.heap.size → W.heap.size ≤ g2 → g2 < w1.heap.size → g1 ≠ g2 → wpList P l.toArray Q tl ((ah.put (some d1) (.pointer (some ⟨g1, 0, none⟩))).put (some d2) (.pointer (some ⟨g2, 0, none⟩))) ((w1.pin g1 c1 T1).pin g2 c2 T2))) :
    (Code.region id l.toArray true).wp P Q a W := by
  obtain ⟨ah, hq, ht⟩ := h
  have hne : e1 ≠ e2 := by
    have := (Region.mixB_spec hB).nodup
    simp at this
    exact this
  let V : Nat → (Nat → Value) → World → Prop := fun i u w' => ∃ g, u i = .pointer (some ⟨g, 0, none⟩) ∧ u (if i = e1 then e2 else e1) ≠ .pointer (some ⟨g, 0, none⟩) ∧ W.heap.size ≤ g ∧
    w'.heap[g]? = some (.cells (if i = e1 then c1 else c2) (if i = e1 then T1 else T2) (0, 0))
  have hlt : ∀ {i u w'}, V i u w' → ∀ g, u i = .pointer (some ⟨g, 0, none⟩) → g < w'.heap.size := by
    intro i u w' ⟨g, h1, _, _, h4⟩ g' hg'
    rw [h1] at hg'
    injection hg' with hg'; injection hg' with hg'; injection hg' with hg'
    subst hg'
    exact (Array.getElem?_eq_some_iff.1 h4).1
  refine wp_region_mix m [(e1, d1), (e2, d2)] hs tl V hm hB hhs htl ?_ ⟨ah, hq, ?_, ?_⟩
  · intro i _ u w1 w2 hx ⟨g, h1, h2, h3, h4⟩
    exact ⟨g, h1, h2, h3, (hx.below.block g (Array.getElem?_eq_some_iff.1 h4).1).trans h4⟩
  · intro u w1 hw i hi o ho hk
    have ho' : l[i]? = some o := by simpa using ho
    have hi' : i = e1 ∨ i = e2 := by simpa using hi
    have hother : V (if i = e1 then e2 else e1) u w1 ∨ u (if i = e1 then e2 else e1) = undef := by
      rcases hi' with rfl | rfl
      · rw [if_pos rfl]; exact (hk e2 (by simp)).2
      · rw [if_neg (Ne.symm hne)]; exact (hk e1 (by simp)).2
    have hoi : (if i = e1 then e2 else e1) ≠ i := by
      rcases hi' with rfl | rfl
      · rw [if_pos rfl]; exact Ne.symm hne
      · rw [if_neg (Ne.symm hne)]; exact hne
    have hfresh : u (if i = e1 then e2 else e1) ≠ .pointer (some ⟨w1.heap.size, 0, none⟩) := by
      rcases hother with h | h
      · intro hc
        have := hlt h _ hc
        omega
      · rw [h]; simp [undef]
    have hop : o.op = .alloc (if i = e1 then T1 else T2) := by
      rcases hi' with rfl | rfl
      · rw [ho'] at hop1; rw [if_pos rfl]; exact Option.some.inj hop1
      · rw [ho'] at hop2; rw [if_neg (Ne.symm hne)]; exact Option.some.inj hop2
    have hr : ∀ w, (Instr.alloc (if i = e1 then T1 else T2) true (.tuple #[])).run P w = .ok (.pointer (some ⟨w.heap.size, 0, none⟩)) (w.alloc (.cells (if i = e1 then c1 else c2) (if i = e1 then T1 else T2))) := by
      intro w
      rcases hi' with rfl | rfl
      · simp only [if_true]; exact hr1 w
      · simp only [if_neg (Ne.symm hne)]; exact hr2 w
    refine extAt_alloc hop hr ⟨⟨w1.heap.size, by simp only [upd, if_true], by simp only [upd, if_neg hoi]; exact hfresh, hw.size, heap_alloc_new _ _⟩, fun j hj hne' _ hV => ?_⟩
    obtain ⟨g, h1, h2, h3, h4⟩ := hV
    have hgl := (Array.getElem?_eq_some_iff.1 h4).1
    have hj' : j = e1 ∨ j = e2 := by simpa using hj
    have hji : (if j = e1 then e2 else e1) = i := by
      rcases hi' with rfl | rfl <;> rcases hj' with rfl | rfl
      · exact absurd rfl hne'
      · rw [if_neg (Ne.symm hne)]
      · rw [if_pos rfl]
      · exact absurd rfl hne'
    refine ⟨g, by simp only [upd, if_neg hne']; exact h1, ?_, h3, (Below.heap_alloc _ _ _ hgl).trans h4⟩
    simp only [upd, hji, if_true]
    intro hc
    injection hc with hc; injection hc with hc; injection hc with hc
    omega
  · intro u w1 hw hk
    obtain ⟨g1, hu1, hn1, hg1, hh1⟩ := hk e1 (by simp)
    obtain ⟨g2, hu2, hn2, hg2, hh2⟩ := hk e2 (by simp)
    simp only [if_true] at hn1 hh1
    simp only [if_neg (Ne.symm hne)] at hn2 hh2
    have hgg : g1 ≠ g2 := fun h => by subst h; exact hn1 hu2
    have := ht g1 g2 w1 hw hg1 (Array.getElem?_eq_some_iff.1 hh1).1 hg2 (Array.getElem?_eq_some_iff.1 hh2).1 hgg
    rw [← pin_same _ _ _ _ hh1, ← pin_same _ _ _ _ hh2, ← hu1, ← hu2] at this
    exact this
end mix
end Go
