import Derived.Test.YtfpkdeokpomocaaAMSym2
set_option linter.constructorNameAsVariable false
set_option linter.unusedVariables false
set_option linter.unusedSimpArgs false
set_option linter.unusedVariables false
set_option linter.unusedSimpArgs false
namespace Go.AM
open Go
section
variable {K : Val → R} {K2 : Val → Heap → R} {K0 : Heap → R} {h : Heap} {k : IntKind}
def Heap.cs (h : Heap) (b : Nat) : Option (List Val) := match h.blk b with
  | some (.cells l) => some l
  | _ => none
theorem cs_of {b : Nat} {l : List Val} (hb : h.blk b = some (.cells l)) : h.cs b = some l := by simp [Heap.cs, hb]
theorem of_cs {b : Nat} {l : List Val} (hb : h.cs b = some l) : h.blk b = some (.cells l) := by
  unfold Heap.cs at hb
  split at hb
  · rename_i l' e; cases hb; exact e
  · cases hb
theorem cs_put (b : Nat) (l : List Val) (c : Nat) : (h.put b (.cells l)).cs c = if c = b then some l else h.cs c := by
  unfold Heap.cs
  rw [Heap.blk_put]
  by_cases e : c = b
  · simp [e]
  · simp [e]
theorem cs_add (l : List Val) (c : Nat) : (h.add (.cells l)).cs c = if c = h.next then some l else h.cs c := by
  unfold Heap.cs
  rw [Heap.blk_add]
  by_cases e : c = h.next
  · simp [e]
  · simp [e]
def ldK (g : Bool) (n o : Nat) (K : Val → R) : Option (List Val) → R
  | some l => if o + n ≤ l.length then K (mk g ((l.drop o).take n)) else none
  | none => none
@[simp] theorem ldK_some (g : Bool) (n o : Nat) (l : List Val) : ldK g n o K (some l) = if o + n ≤ l.length then K (mk g ((l.drop o).take n)) else none := rfl
theorem ldC_m (g : Bool) (n b o : Nat) : ldC g n (.ptr b o) h K = ldK g n o K (h.cs b) := by
  cases hb : h.blk b with
  | none => simp [ldC, Heap.at, hb, Heap.cs, ldK]
  | some x =>
    cases x with
    | cells l =>
      rw [cs_of hb]
      by_cases hl : o + n ≤ l.length
      · rw [ldC_p hb hl]; simp [hl]
      · simp only [ldC, Heap.at, hb, dropN_eq, ldK_some, if_neg hl]
        by_cases h1 : o ≤ l.length
        · simp only [if_pos h1, Option.bind_some, takeN_eq, List.length_drop]
          rw [if_neg (by omega)]
        · simp [if_neg h1]
    | tok n => simp [ldC, Heap.at, hb, Heap.cs, ldK]
    | map n => simp [ldC, Heap.at, hb, Heap.cs, ldK]
def stBad (n b o : Nat) (x : Val) (h : Heap) (K0 : Heap → R) : R := stC n (.ptr b o) x h K0
def stK (n b o : Nat) (x : Val) (h : Heap) (K0 : Heap → R) : Option (List Val) → R
  | some l => if (cells x).length = n ∧ o + n ≤ l.length then K0 (h.put b (.cells (l.take o ++ cells x ++ l.drop (o + n)))) else stBad n b o x h K0
  | none => stBad n b o x h K0
@[simp] theorem stK_some (n b o : Nat) (x : Val) (l : List Val) : stK n b o x h K0 (some l) = if (cells x).length = n ∧ o + n ≤ l.length then K0 (h.put b (.cells (l.take o ++ cells x ++ l.drop (o + n)))) else stBad n b o x h K0 := rfl
theorem stC_m (n b o : Nat) (x : Val) : stC n (.ptr b o) x h K0 = stK n b o x h K0 (h.cs b) := by
  cases hb : h.cs b with
  | none => rfl
  | some l =>
    simp only [stK_some]
    split
    · rename_i hc; exact stC_p (of_cs hb) hc.1 hc.2
    · rfl
theorem boxC_m (z : Nat) (v : Val) : boxC z v h K2 = if (cells v).length = z then K2 (.ptr h.next 0) (h.add (.cells (cells v))) else none := by
  by_cases e : (cells v).length = z
  · rw [boxC_e e, if_pos e]
  · rw [if_neg e]
    have : (cells v).length.beq z = false := by
      cases e2 : (cells v).length.beq z with
      | false => rfl
      | true => exact absurd (Nat.eq_of_beq_eq_true e2) e
    simp only [boxC, this, cond_false]
theorem aggC_m (z : List Val) (ps : List (Nat × Nat × Val)) : aggC z ps K = (putA ps z).elim none (fun l => K (.agg l)) := by
  unfold aggC; cases putA ps z <;> rfl
theorem faC_e (n : Nat) (l : List Val) (hn : n ≤ l.length) : faC n (.ep l) K = K (.ep (l.drop n)) := by simp only [faC, dropN_eq, if_pos hn]
theorem fdC_e (g : Bool) (o n : Nat) (l : List Val) (hn : o + n ≤ l.length) : fdC g o n (.agg l) K = K (mk g ((l.drop o).take n)) := by
  simp only [fdC, dropN_eq]
  rw [if_pos (by omega)]
  simp only [Option.bind_some, takeN_eq, List.length_drop]
  rw [if_pos (by omega)]
 end
end Go.AM
