/- Code cut in two: the first statements of a row, and what comes behind them. -/
import Derived.Test.YtilhjcnkaelheaaAmSet
namespace Go.Proofs.Ytilhjcnkaelheaa.Am
open Go Go.RowKit

/-- What comes behind the first n statements. -/
def rest : Nat → ACode → ACode
  | n + 1, .seq _ b => rest n b
  | _, c => c
/-- The first n statements, and then r. -/
def upto : Nat → ACode → ACode → ACode
  | n + 1, .seq a b, r => .seq a (upto n b r)
  | _, _, r => r
theorem cut : ∀ (n : Nat) (c : ACode), c = upto n c (rest n c)
  | 0, c => by cases c <;> rfl
  | n + 1, .seq a b => by rw [upto, rest, ← cut n b]
  | n + 1, .skip => rfl
  | n + 1, .region _ => rfl
  | n + 1, .draw _ => rfl
  | n + 1, .cond _ _ _ => rfl
  | n + 1, .block _ _ => rfl
  | n + 1, .loop _ => rfl
  | n + 1, .exit _ => rfl
  | n + 1, .ret => rfl
  | n + 1, .range _ _ _ _ => rfl

end Go.Proofs.Ytilhjcnkaelheaa.Am
