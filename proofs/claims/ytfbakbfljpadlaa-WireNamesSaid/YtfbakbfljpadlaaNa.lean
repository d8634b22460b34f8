import Derived.Test.YtfbakbfljpadlaaWc
import Derived.Test.YtfbakbfljpadlaaWe
/- What the methods of readers and writers give at nil. -/
namespace Go.Proofs.Ytfbakbfljpadlaa
open Go.RowKit
set_option linter.unusedSimpArgs false
set_option linter.unusedVariables false

/-- A call that gives v and changes nothing. -/
def Gives (f : Nat) (args : List Value) (v : Value) : Prop := ∀ W : World, Calls Try.prog f args.toArray W fun e w' => e = .returned v ∧ W = w'

theorem wmade_nil : Gives 59 [.pointer none] (.bool false) := fun W => by
  show Calls Try.prog 59 #[.pointer none] W _
  go_enter Try.func59, Try.ntmps59
  go_wp2_with (fail)
  go_ret
  exact ⟨rfl, rfl⟩

theorem made_nil : Gives 49 [.pointer none] (.bool false) := fun W => by
  show Calls Try.prog 49 #[.pointer none] W _
  go_enter Try.func49, Try.ntmps49
  go_wp2_with (fail)
  go_ret
  exact ⟨rfl, rfl⟩

theorem put_nil1 : Gives 61 [.pointer none, .int .u64 1, .int .i64 1] (.int .i64 1) := fun W => by
  show Calls Try.prog 61 #[.pointer none, .int .u64 1, .int .i64 1] W _
  go_enter Try.func61, Try.ntmps61
  go_wp2_with ((go_at_call 59; refine (wmade_nil _).mono ?_; rintro e w1 ⟨rfl, rfl⟩))
  go_ret
  exact ⟨rfl, rfl⟩

theorem put_nil8 : Gives 61 [.pointer none, .int .u64 1, .int .i64 8] (.int .i64 1) := fun W => by
  show Calls Try.prog 61 #[.pointer none, .int .u64 1, .int .i64 8] W _
  go_enter Try.func61, Try.ntmps61
  go_wp2_with ((go_at_call 59; refine (wmade_nil _).mono ?_; rintro e w1 ⟨rfl, rfl⟩))
  go_ret
  exact ⟨rfl, rfl⟩

theorem put16_nil : Gives 60 [.pointer none, .int .u16 0, .int .i64 2] (.int .i64 1) := fun W => by
  show Calls Try.prog 60 #[.pointer none, .int .u16 0, .int .i64 2] W _
  go_enter Try.func60, Try.ntmps60
  go_wp2_with ((go_at_call 59; refine (wmade_nil _).mono ?_; rintro e w1 ⟨rfl, rfl⟩))
  go_ret
  exact ⟨rfl, rfl⟩

theorem wlen_nil : Gives 41 [.pointer none] (.int .i64 0) := fun W => by
  show Calls Try.prog 41 #[.pointer none] W _
  go_enter Try.func41, Try.ntmps41
  go_wp2_with ((go_at_call 59; refine (wmade_nil _).mono ?_; rintro e w1 ⟨rfl, rfl⟩))
  go_ret
  exact ⟨rfl, rfl⟩

theorem wout_nil : Gives 40 [.pointer none] (.slice none 0 0) := fun W => by
  show Calls Try.prog 40 #[.pointer none] W _
  go_enter Try.func40, Try.ntmps40
  go_wp2_with ((go_at_call 59; refine (wmade_nil _).mono ?_; rintro e w1 ⟨rfl, rfl⟩))
  go_ret
  exact ⟨rfl, rfl⟩

theorem wu8_nil : Gives 43 [.pointer none, .int .u64 1] (.int .i64 1) := fun W => by
  show Calls Try.prog 43 #[.pointer none, .int .u64 1] W _
  go_enter Try.func43, Try.ntmps43
  go_wp2_with ((go_at_call 61; refine (put_nil1 _).mono ?_; rintro e w1 ⟨rfl, rfl⟩))
  go_ret
  exact ⟨rfl, rfl⟩

theorem wu64_nil : Gives 44 [.pointer none, .int .u64 1] (.int .i64 1) := fun W => by
  show Calls Try.prog 44 #[.pointer none, .int .u64 1] W _
  go_enter Try.func44, Try.ntmps44
  go_wp2_with ((go_at_call 61; refine (put_nil8 _).mono ?_; rintro e w1 ⟨rfl, rfl⟩))
  go_ret
  exact ⟨rfl, rfl⟩

theorem wbytes_nil : Gives 34 [.pointer none, .slice none 0 0] (.int .i64 1) := fun W => by
  show Calls Try.prog 34 #[.pointer none, .slice none 0 0] W _
  go_enter Try.func34, Try.ntmps34
  go_wp2_with ((go_at_call 59; refine (wmade_nil _).mono ?_; rintro e w1 ⟨rfl, rfl⟩))
  go_ret
  exact ⟨rfl, rfl⟩

theorem patch_nil : Gives 38 [.pointer none, .int .i64 0] (.int .i64 1) := fun W => by
  show Calls Try.prog 38 #[.pointer none, .int .i64 0] W _
  go_enter Try.func38, Try.ntmps38
  go_wp2_with ((go_at_call 59; refine (wmade_nil _).mono ?_; rintro e w1 ⟨rfl, rfl⟩))
  go_ret
  exact ⟨rfl, rfl⟩

theorem left_nil : Gives 12 [.pointer none] (.int .i64 0) := fun W => by
  show Calls Try.prog 12 #[.pointer none] W _
  go_enter Try.func12, Try.ntmps12
  go_wp2_with ((go_at_call 49; refine (made_nil _).mono ?_; rintro e w1 ⟨rfl, rfl⟩))
  go_ret
  exact ⟨rfl, rfl⟩

theorem at_nil : Gives 13 [.pointer none] (.int .i64 0) := fun W => by
  show Calls Try.prog 13 #[.pointer none] W _
  go_enter Try.func13, Try.ntmps13
  go_wp2_with ((go_at_call 49; refine (made_nil _).mono ?_; rintro e w1 ⟨rfl, rfl⟩))
  go_ret
  exact ⟨rfl, rfl⟩

theorem made_same (W : World) : Calls Try.prog 49 #[.pointer none] W fun e w' => e = .returned (.bool false) ∧ W = w' := by
  go_enter Try.func49, Try.ntmps49
  go_wp2_with fail
  go_ret
  exact ⟨rfl, rfl⟩

theorem fault_nil (W : World) : Calls Try.prog 18 #[.pointer none] W fun e w2 => e = .returned (.agg #[.int .i64 1, .int .i64 0]) ∧ Below W.heap.size W w2 := by
  skip
  go_enter Try.func18, Try.ntmps18
  go_wp2_with ((go_at_call 49; refine (made_nil _).mono ?_; rintro e w1 ⟨rfl, rfl⟩))
  skip
  refine bodyPost_ret (v := .agg #[.int .i64 1, .int .i64 0]) (by simp [results, Try.results18, go_sem]) rfl ⟨rfl, (Below.refl _ _).alloc (Nat.le_refl _) _⟩

theorem take_nil0 : Gives 51 [.pointer none, .int .i64 0] (.tuple #[.int .i64 0, .bool false]) := fun W => by
  show Calls Try.prog 51 #[.pointer none, .int .i64 0] W _
  go_enter Try.func51, Try.ntmps51
  go_wp2_with ((go_at_call 49; refine (made_nil _).mono ?_; rintro e w1 ⟨rfl, rfl⟩))
  go_ret2
  exact ⟨rfl, rfl⟩

theorem take_nil1 : Gives 51 [.pointer none, .int .i64 1] (.tuple #[.int .i64 0, .bool false]) := fun W => by
  show Calls Try.prog 51 #[.pointer none, .int .i64 1] W _
  go_enter Try.func51, Try.ntmps51
  go_wp2_with ((go_at_call 49; refine (made_nil _).mono ?_; rintro e w1 ⟨rfl, rfl⟩))
  go_ret2
  exact ⟨rfl, rfl⟩

theorem take_nil6 : Gives 51 [.pointer none, .int .i64 6] (.tuple #[.int .i64 0, .bool false]) := fun W => by
  show Calls Try.prog 51 #[.pointer none, .int .i64 6] W _
  go_enter Try.func51, Try.ntmps51
  go_wp2_with ((go_at_call 49; refine (made_nil _).mono ?_; rintro e w1 ⟨rfl, rfl⟩))
  go_ret2
  exact ⟨rfl, rfl⟩

theorem get_nil1 : Gives 52 [.pointer none, .int .i64 1] (.int .u64 0) := fun W => by
  show Calls Try.prog 52 #[.pointer none, .int .i64 1] W _
  go_enter Try.func52, Try.ntmps52
  go_wp2_with ((go_at_call 51; refine (take_nil1 _).mono ?_; rintro e w1 ⟨rfl, rfl⟩))
  go_ret
  exact ⟨rfl, rfl⟩

theorem get_nil6 : Gives 52 [.pointer none, .int .i64 6] (.int .u64 0) := fun W => by
  show Calls Try.prog 52 #[.pointer none, .int .i64 6] W _
  go_enter Try.func52, Try.ntmps52
  go_wp2_with ((go_at_call 51; refine (take_nil6 _).mono ?_; rintro e w1 ⟨rfl, rfl⟩))
  go_ret
  exact ⟨rfl, rfl⟩

theorem ru8_nil : Gives 16 [.pointer none] (.int .u64 0) := fun W => by
  show Calls Try.prog 16 #[.pointer none] W _
  go_enter Try.func16, Try.ntmps16
  go_wp2_with ((go_at_call 52; refine (get_nil1 _).mono ?_; rintro e w1 ⟨rfl, rfl⟩))
  go_ret
  exact ⟨rfl, rfl⟩

theorem ru48_nil : Gives 45 [.pointer none] (.int .u64 0) := fun W => by
  show Calls Try.prog 45 #[.pointer none] W _
  go_enter Try.func45, Try.ntmps45
  go_wp2_with ((go_at_call 52; refine (get_nil6 _).mono ?_; rintro e w1 ⟨rfl, rfl⟩))
  go_ret
  exact ⟨rfl, rfl⟩

theorem bytes_nil : Gives 15 [.pointer none, .int .i64 0] (.slice none 0 0) := fun W => by
  show Calls Try.prog 15 #[.pointer none, .int .i64 0] W _
  go_enter Try.func15, Try.ntmps15
  go_wp2_with ((go_at_call 51; refine (take_nil0 _).mono ?_; rintro e w1 ⟨rfl, rfl⟩))
  go_ret
  exact ⟨rfl, rfl⟩

theorem sub_nil : Gives 14 [.pointer none, .int .i64 0] (.pointer none) := fun W => by
  show Calls Try.prog 14 #[.pointer none, .int .i64 0] W _
  go_enter Try.func14, Try.ntmps14
  go_wp2_with ((go_at_call 49; refine (made_nil _).mono ?_; rintro e w1 ⟨rfl, rfl⟩))
  go_ret
  exact ⟨rfl, rfl⟩

theorem fail_nil : Gives 17 [.pointer none, .int .i64 3] (.tuple #[]) := fun W => by
  show Calls Try.prog 17 #[.pointer none, .int .i64 3] W _
  go_enter Try.func17, Try.ntmps17
  go_wp2_with ((go_at_call 49; refine (made_nil _).mono ?_; rintro e w1 ⟨rfl, rfl⟩))
  go_end0
  exact ⟨rfl, rfl⟩

theorem mark_nil : Gives 36 [.pointer none] (.tuple #[.int .i64 0, .int .i64 1]) := fun W => by
  show Calls Try.prog 36 #[.pointer none] W _
  go_enter Try.func36, Try.ntmps36
  go_wp2_with (first | (go_at_call 41; refine (wlen_nil _).mono ?_; rintro e w1 ⟨rfl, rfl⟩) | (go_at_call 60; refine (put16_nil _).mono ?_; rintro e w1 ⟨rfl, rfl⟩))
  go_ret2
  exact ⟨rfl, rfl⟩
end Go.Proofs.Ytfbakbfljpadlaa
