import Derived.Test.YtfpkdeokpomocaaAMSym4
import Derived.Test.YtfpkdeokpomocaaAMPrim
set_option linter.constructorNameAsVariable false
set_option linter.unusedVariables false
set_option linter.unusedSimpArgs false
set_option linter.unusedVariables false
set_option linter.unusedSimpArgs false
namespace Go.AM
open Go
def Gr (h : Heap) : Own → Nat → Prop
  | .nl, n => n = 0
  | .ex, _ => True
  | .tok t, n => h.blk t = some (.tok n)
  | .ro, _ => False
structure Kept (h h' : Heap) : Prop where
  cells : ∀ b l, h.blk b = some (.cells l) → h'.blk b = some (.cells l)
theorem Kept.refl (h : Heap) : Kept h h := ⟨fun _ _ h => h⟩
theorem Kept.trans {a b c : Heap} (h : Kept a b) (k : Kept b c) : Kept a c := ⟨fun x l e => k.cells x l (h.cells x l e)⟩
theorem app_one {h : Heap} {w u : Own} {z : Nat} {g : Bool} {l : List Val} {x : Val} (hg : Gr h w l.length) (hl : l.length + 1 ≤ 2147483648) (hnext : h.blk h.next = none) :
    ∃ w' h', (∀ K, appC g z (.sl w z l) (.sl u z [x]) h K = K (.sl w' z (l ++ [x])) h') ∧ Gr h' w' (l.length + 1) ∧ (∀ b c, h.blk b = some (.cells c) → h'.blk b = some (.cells c)) ∧ (∃ t, w' = .tok t) := by
  have hc : decide (l.length + [x].length ≤ room) = true := decide_eq_true hl
  have hs : source g z (.sl u z [x]) h = some [x] := by simp [source]
  cases w with
  | ro => exact hg.elim
  | tok t =>
    have ht : h.blk t = some (.tok l.length) := hg
    refine ⟨.tok t, h.put t (.tok (l.length + 1)), fun K => ?_, blk_put_same _ _, fun b c hb => ?_, t, rfl⟩
    · simp only [appC, hs, hc, ht, Nat.beq_refl, Bool.and_self, cond_true, List.length_nil, Nat.add_zero]
    · have : b ≠ t := by intro e; subst e; rw [ht] at hb; cases hb
      rw [blk_put_ne _ this]; exact hb
  | nl =>
    refine ⟨.tok h.next, h.add (.tok (l.length + 1)), fun K => ?_, blk_add_same _, fun b c hb => ?_, _, rfl⟩
    · simp only [appC, hs, hc, Nat.beq_refl, Bool.and_self, cond_true, List.length_nil, Nat.add_zero]
    · have : b ≠ h.next := by intro e; subst e; rw [hnext] at hb; cases hb
      rw [blk_add_ne _ this]; exact hb
  | ex =>
    refine ⟨.tok h.next, h.add (.tok (l.length + 1)), fun K => ?_, blk_add_same _, fun b c hb => ?_, _, rfl⟩
    · simp only [appC, hs, hc, Nat.beq_refl, Bool.and_self, cond_true, List.length_nil, Nat.add_zero]
    · have : b ≠ h.next := by intro e; subst e; rw [hnext] at hb; cases hb
      rw [blk_add_ne _ this]; exact hb
def Fit (h : Heap) : Prop := ∀ b, h.next ≤ b → h.blk b = none
theorem Fit.zero : Fit heap0 := fun b _ => rfl
theorem Fit.add {h : Heap} (hf : Fit h) (x : Blk) : Fit (h.add x) := fun b hb => by
  have hb' : h.next + 1 ≤ b := hb
  rw [blk_add_ne x (by omega)]; exact hf b (by omega)
theorem Fit.put {h : Heap} (hf : Fit h) {c : Nat} (x : Blk) (hc : c < h.next) : Fit (h.put c x) := fun b hb => by
  have hb' : h.next ≤ b := hb
  rw [blk_put_ne x (by omega)]; exact hf b hb'
theorem Fit.lt {h : Heap} (hf : Fit h) {b : Nat} {x : Blk} (e : h.blk b = some x) : b < h.next := by
  cases hc : decide (b < h.next) with
  | true => simpa using hc
  | false => rw [hf b (by simpa using hc)] at e; cases e
theorem app_one' {h : Heap} {w u : Own} {z : Nat} {g : Bool} {l : List Val} {x : Val} (hf : Fit h) (hg : Gr h w l.length) (hl : l.length + 1 ≤ 2147483648) :
    ∃ w' h', (∀ K, appC g z (.sl w z l) (.sl u z [x]) h K = K (.sl w' z (l ++ [x])) h') ∧ Fit h' ∧ Gr h' w' (l.length + 1) ∧ (∀ b c, h.blk b = some (.cells c) → h'.blk b = some (.cells c)) ∧ (∃ t, w' = .tok t) := by
  have hc : decide (l.length + [x].length ≤ room) = true := decide_eq_true hl
  obtain ⟨w', h', e1, e2, e3, e4⟩ := app_one (g := g) (z := z) (u := u) (x := x) hg hl (hf _ (Nat.le_refl _))
  refine ⟨w', h', e1, ?_, e2, e3, e4⟩
  have hs : source g z (.sl u z [x]) h = some [x] := by simp [source]
  have e := e1 (fun v h => some (v, h))
  cases w with
  | ro => exact hg.elim
  | tok t =>
    have ht : h.blk t = some (.tok l.length) := hg
    simp only [appC, hs, hc, ht, Nat.beq_refl, Bool.and_self, cond_true, List.length_nil, Nat.add_zero, Option.some.injEq, Prod.mk.injEq] at e
    rw [← e.2]; exact hf.put _ (hf.lt ht)
  | nl =>
    simp only [appC, hs, hc, Nat.beq_refl, Bool.and_self, cond_true, List.length_nil, Nat.add_zero, Option.some.injEq, Prod.mk.injEq] at e
    rw [← e.2]; exact hf.add _
  | ex =>
    simp only [appC, hs, hc, Nat.beq_refl, Bool.and_self, cond_true, List.length_nil, Nat.add_zero, Option.some.injEq, Prod.mk.injEq] at e
    rw [← e.2]; exact hf.add _
theorem repB_zero : ∀ n, repB n [0] = List.replicate n 0
  | 0 => rfl
  | n + 1 => by simp [repB, repB_zero n, List.replicate_succ]
theorem p_repeat0 {n : Nat} (hn : n ≤ 1000) (h : Heap) : pRepeat [.str [0], .int .i64 n] h = some (.str (List.replicate n 0), h) := by
  have : (decide ((0 : Int) ≤ n) && decide ([(0 : UInt8)].length * (n : Int).toNat ≤ 140737488355328) && decide ((n : Int) ≤ 9223372036854775807)) = true := by
    rw [decide_eq_true (show (0 : Int) ≤ n by omega), decide_eq_true (show [(0 : UInt8)].length * (n : Int).toNat ≤ 140737488355328 by simp; omega), decide_eq_true (show (n : Int) ≤ 9223372036854775807 by omega)]; rfl
  show (bif (decide ((0 : Int) ≤ n) && decide ([(0 : UInt8)].length * (n : Int).toNat ≤ 140737488355328) && decide ((n : Int) ≤ 9223372036854775807)) then some (Val.str (repB (n : Int).toNat [0]), h) else none) = _
  rw [this, cond_true, Int.toNat_natCast, repB_zero]
end Go.AM
