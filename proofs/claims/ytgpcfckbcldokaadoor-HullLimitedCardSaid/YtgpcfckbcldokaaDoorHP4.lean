/- Plain functions of the hull layer: limits, slower ships. -/
import Derived.Test.YtgpcfckbcldokaaDoorHP3
namespace Hull

def lev (n : Int) : Ice := ⟨100, n, 0, 0⟩

theorem lev_good {n : Int} (h : 0 ≤ n ∧ n ≤ 400) : goodIce (lev n) := by
  simp only [goodIce, lev]; omega

def limitE (s : Ship) (v : Int) (ch : Bool) : Int × Int :=
  if asked s ⟨0, 0, 0, 0⟩ v ≠ 0 then (0, asked s ⟨0, 0, 0, 0⟩ v)
  else if (greatest (fun n => makes s (lev n) ch v) 0 400).2 = false then (0, 4) else ((greatest (fun n => makes s (lev n) ch v) 0 400).1, 0)

def makesE (s : Ship) (i : Ice) (v : Int) (ch : Bool) : Bool × Int := if asked s i v ≠ 0 then (false, asked s i v) else (makes s i ch v, 0)

def safeE (s : Ship) (c : Cell) (ch : Bool) : Int × Int := if met s c ≠ 0 then (0, met s c) else safe s c ch
end Hull
