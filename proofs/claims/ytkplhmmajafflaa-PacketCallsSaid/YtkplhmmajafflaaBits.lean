import Derived.Laws.BitsAllLaws
import Derived.WalkKit
/- Bits of numbers: bytes joined and parted. No program in sight. -/
namespace Go.Proofs.Ytkplhmmajafflaa
open Go.RowKit
set_option linter.unusedSimpArgs false
set_option linter.unusedVariables false

theorem or_mul (a b i m : Nat) (hm : m = 2 ^ i) (h : a < m) : (b * m) ||| a = b * m + a := by
  subst hm
  rw [← Nat.shiftLeft_eq, Nat.shiftLeft_add_eq_or_of_lt h]

theorem u64_join (m x : Nat) (hm : m < 72057594037927936) (hx : x < 256) : bits BinOp.or IntKind.u64 (IntKind.u64.wrap ((m : Int) * 256)) (x : Int) = ((m * 256 + x : Nat) : Int) := by
  have e : IntKind.u64.wrap ((m : Int) * 256) = ((m * 256 : Nat) : Int) := by
    rw [IntWalk.u64_in _ (by omega)]
    omega
  rw [e, u64_or_nat (m * 256) x (by omega) (by omega), or_mul x m 8 256 (by decide) hx]
end Go.Proofs.Ytkplhmmajafflaa
