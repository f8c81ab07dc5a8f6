import Derived.Test.YtfpkdeokpomocaaAMTab
set_option linter.constructorNameAsVariable false
set_option linter.unusedVariables false
set_option linter.unusedSimpArgs false
set_option linter.unusedVariables false
namespace Go.AM
open Go
abbrev SF := Call → Nat → List Val → Heap → R
inductive ST where
  | leaf (k : Nat) (f : SF)
  | node (m : Nat) (l r : ST)
def ST.go (call : Call) (n : Nat) (args : List Val) (h : Heap) : ST → Nat → R
  | .leaf k f, i => bif i.beq k then f call n args h else none
  | .node m l r, i => bif i.blt m then l.go call n args h i else r.go call n args h i
def runS (t : ST) : Nat → Call
  | 0, _, _, _ => none
  | n + 1, f, args, h => t.go (runS t n) n args h f
def Sim : TT → ST → Prop
  | .leaf k f, .leaf j s => k = j ∧ ∀ call n args h, runFn call n f args h = s call n args h
  | .node m l r, .node m' l' r' => m = m' ∧ Sim l l' ∧ Sim r r'
  | _, _ => False
theorem sim_go : ∀ (t : TT) (s : ST), Sim t s → ∀ call n args h f, s.go call n args h f = match t.get f with
    | some fn => runFn call n fn args h
    | none => none
  | .leaf k f, .leaf j s, hs, call, n, args, h, i => by
    obtain ⟨rfl, hs⟩ := hs
    simp only [ST.go, TT.get]
    cases i.beq k
    · rfl
    · exact (hs call n args h).symm
  | .node m l r, .node m' l' r', hs, call, n, args, h, i => by
    obtain ⟨rfl, h1, h2⟩ := hs
    simp only [ST.go, TT.get]
    cases i.blt m
    · exact sim_go r r' h2 call n args h i
    · exact sim_go l l' h1 call n args h i
  | .nil, .leaf _ _, hs, _, _, _, _, _ => hs.elim
  | .nil, .node _ _ _, hs, _, _, _, _, _ => hs.elim
  | .leaf _ _, .node _ _ _, hs, _, _, _, _, _ => hs.elim
  | .node _ _ _, .leaf _ _, hs, _, _, _, _, _ => hs.elim
theorem runS_eq {t : TT} {s : ST} (hs : Sim t s) : ∀ n f args h, runS s n f args h = run t.get n f args h
  | 0, f, args, h => rfl
  | n + 1, f, args, h => by
    have ih : runS s n = run t.get n := by
      funext f args h
      exact runS_eq hs n f args h
    simp only [runS, run, ih]
    exact sim_go t s hs _ _ _ _ _
def fnp : Fn → Option Nat
  | .code np _ _ _ => some np
  | .prim _ => none
def ap0 (s : Call → Nat → Heap → R) : SF := fun call n args h => match args with | [] => s call n h | _ => none
def ap1 (s : Call → Nat → Val → Heap → R) : SF := fun call n args h => match args with | [a] => s call n a h | _ => none
def ap2 (s : Call → Nat → Val → Val → Heap → R) : SF := fun call n args h => match args with | [a, b] => s call n a b h | _ => none
def ap3 (s : Call → Nat → Val → Val → Val → Heap → R) : SF := fun call n args h => match args with | [a, b, c] => s call n a b c h | _ => none
def ap4 (s : Call → Nat → Val → Val → Val → Val → Heap → R) : SF := fun call n args h => match args with | [a, b, c, d] => s call n a b c d h | _ => none
def ap5 (s : Call → Nat → Val → Val → Val → Val → Val → Heap → R) : SF := fun call n args h => match args with | [a, b, c, d, e] => s call n a b c d e h | _ => none
def ap6 (s : Call → Nat → Val → Val → Val → Val → Val → Val → Heap → R) : SF := fun call n args h => match args with | [a, b, c, d, e, f] => s call n a b c d e f h | _ => none
theorem runFn_len {F : Fn} {np : Nat} (hF : fnp F = some np) {call : Call} {n : Nat} {args : List Val} {h : Heap} (hl : args.length ≠ np) : runFn call n F args h = none := by
  cases F with
  | prim F => cases hF
  | code np' nt res body =>
    cases hF
    have : args.length.beq np = false := by
      cases e : args.length.beq np with
      | false => rfl
      | true => exact absurd (Nat.eq_of_beq_eq_true e) hl
    simp only [runFn, this, cond_false]
section
variable {F : Fn}
theorem sm0 {s : Call → Nat → Heap → R} (hF : fnp F = some 0) (e : ∀ call n h, runFn call n F [] h = s call n h) : ∀ call n args h, runFn call n F args h = ap0 s call n args h := by
  intro call n args h
  match args with
  | [] => exact e ..
  | _ :: _ => exact runFn_len hF (by simp)
theorem sm1 {s : Call → Nat → Val → Heap → R} (hF : fnp F = some 1) (e : ∀ call n a h, runFn call n F [a] h = s call n a h) : ∀ call n args h, runFn call n F args h = ap1 s call n args h := by
  intro call n args h
  match args with
  | [a] => exact e ..
  | [] => exact runFn_len hF (by simp)
  | _ :: _ :: _ => exact runFn_len hF (by simp)
theorem sm2 {s : Call → Nat → Val → Val → Heap → R} (hF : fnp F = some 2) (e : ∀ call n a b h, runFn call n F [a, b] h = s call n a b h) : ∀ call n args h, runFn call n F args h = ap2 s call n args h := by
  intro call n args h
  match args with
  | [a, b] => exact e ..
  | [] => exact runFn_len hF (by simp)
  | [_] => exact runFn_len hF (by simp)
  | _ :: _ :: _ :: _ => exact runFn_len hF (by simp)
theorem sm3 {s : Call → Nat → Val → Val → Val → Heap → R} (hF : fnp F = some 3) (e : ∀ call n a b c h, runFn call n F [a, b, c] h = s call n a b c h) : ∀ call n args h, runFn call n F args h = ap3 s call n args h := by
  intro call n args h
  match args with
  | [a, b, c] => exact e ..
  | [] => exact runFn_len hF (by simp)
  | [_] => exact runFn_len hF (by simp)
  | [_, _] => exact runFn_len hF (by simp)
  | _ :: _ :: _ :: _ :: _ => exact runFn_len hF (by simp)
theorem sm4 {s : Call → Nat → Val → Val → Val → Val → Heap → R} (hF : fnp F = some 4) (e : ∀ call n a b c d h, runFn call n F [a, b, c, d] h = s call n a b c d h) : ∀ call n args h, runFn call n F args h = ap4 s call n args h := by
  intro call n args h
  match args with
  | [a, b, c, d] => exact e ..
  | [] => exact runFn_len hF (by simp)
  | [_] => exact runFn_len hF (by simp)
  | [_, _] => exact runFn_len hF (by simp)
  | [_, _, _] => exact runFn_len hF (by simp)
  | _ :: _ :: _ :: _ :: _ :: _ => exact runFn_len hF (by simp)
theorem sm5 {s : Call → Nat → Val → Val → Val → Val → Val → Heap → R} (hF : fnp F = some 5) (e : ∀ call n a b c d x h, runFn call n F [a, b, c, d, x] h = s call n a b c d x h) : ∀ call n args h, runFn call n F args h = ap5 s call n args h := by
  intro call n args h
  match args with
  | [a, b, c, d, x] => exact e ..
  | [] => exact runFn_len hF (by simp)
  | [_] => exact runFn_len hF (by simp)
  | [_, _] => exact runFn_len hF (by simp)
  | [_, _, _] => exact runFn_len hF (by simp)
  | [_, _, _, _] => exact runFn_len hF (by simp)
  | _ :: _ :: _ :: _ :: _ :: _ :: _ => exact runFn_len hF (by simp)
theorem sm6 {s : Call → Nat → Val → Val → Val → Val → Val → Val → Heap → R} (hF : fnp F = some 6) (e : ∀ call n a b c d x y h, runFn call n F [a, b, c, d, x, y] h = s call n a b c d x y h) : ∀ call n args h, runFn call n F args h = ap6 s call n args h := by
  intro call n args h
  match args with
  | [a, b, c, d, x, y] => exact e ..
  | [] => exact runFn_len hF (by simp)
  | [_] => exact runFn_len hF (by simp)
  | [_, _] => exact runFn_len hF (by simp)
  | [_, _, _] => exact runFn_len hF (by simp)
  | [_, _, _, _] => exact runFn_len hF (by simp)
  | [_, _, _, _, _] => exact runFn_len hF (by simp)
  | _ :: _ :: _ :: _ :: _ :: _ :: _ :: _ => exact runFn_len hF (by simp)
 end
end Go.AM
