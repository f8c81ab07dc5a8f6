import Derived.Test.YtfpkdeokpomocaaAMFn
set_option linter.constructorNameAsVariable false
set_option linter.unusedVariables false
set_option linter.unusedSimpArgs false
set_option linter.unusedVariables false
namespace Go.AM
open Go
inductive TT where
  | nil
  | leaf (k : Nat) (f : Fn)
  | node (m : Nat) (l r : TT)
def TT.get : TT → Nat → Option Fn
  | .nil, _ => none
  | .leaf k f, n => bif n.beq k then some f else none
  | .node m l r, n => bif n.blt m then l.get n else r.get n
def TT.All (p : Nat → Fn → Prop) : TT → Prop
  | .nil => True
  | .leaf k f => p k f
  | .node _ l r => l.All p ∧ r.All p
theorem TT.all_get {p : Nat → Fn → Prop} : ∀ (t : TT), t.All p → ∀ n f, t.get n = some f → p n f
  | .nil, _, n, f, h => by cases h
  | .leaf k f, ha, n, g, h => by
    simp only [TT.get] at h
    cases hb : n.beq k with
    | false => rw [hb] at h; cases h
    | true =>
      rw [hb, cond_true] at h
      have := Nat.eq_of_beq_eq_true hb
      subst this
      cases h
      exact ha
  | .node m l r, ha, n, g, h => by
    simp only [TT.get] at h
    cases hb : n.blt m with
    | true => rw [hb, cond_true] at h; exact l.all_get ha.1 n g h
    | false => rw [hb, cond_false] at h; exact r.all_get ha.2 n g h
theorem TT.ok {P : Program} {N : Nat} {dr : List DOp → Array GOper → Bool} (t : TT) (h : t.All fun f fn => okFn P dr f fn = true ∨ ∃ F, fn = .prim F ∧ PrimOk P N f F) : TblOk P N dr t.get :=
  fun f fn hf => t.all_get h f fn hf
theorem run_succ {tbl : Nat → Option Fn} {n f : Nat} {fn : Fn} (h : tbl f = some fn) (args : List Val) (h0 : Heap) : run tbl (n + 1) f args h0 = runFn (run tbl n) n fn args h0 := by
  simp only [run, h]
end Go.AM
