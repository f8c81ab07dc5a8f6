import Derived.Test.YtfpkdeokpomocaaAMTab
set_option linter.constructorNameAsVariable false
set_option linter.unusedVariables false
set_option linter.unusedSimpArgs false
set_option linter.unusedVariables false
namespace Go.AM
open Go
def LeR (a b : R) : Prop := ∀ r, a = some r → b = some r
theorem LeR.rfl {a : R} : LeR a a := fun _ h => h
theorem LeR.no {b : R} : LeR none b := fun _ h => by cases h
theorem gdC_mono {g : Val} {b : Bool} {h : Heap} {x x' : (Val → Heap → R) → R} {K K' : Val → Heap → R} (hx : ∀ k, LeR (x k) (x' k)) (hK : ∀ v h, LeR (K v h) (K' v h)) : LeR (gdC g b h x K) (gdC g b h x' K') := by
  unfold gdC
  split
  · rename_i c
    intro r hr
    revert hr
    split
    · rename_i v h1 e1
      intro hr
      have : (bif c == b then x' (fun v h => some (v, h)) else some (.tup [], h)) = some (v, h1) := by
        revert e1
        cases c == b
        · exact fun e => e
        · exact fun e => hx _ _ e
      rw [this]
      exact hK _ _ _ hr
    · intro hr; cases hr
  · exact hK _ _
  · exact .no
theorem clC_mono {call call' : Call} (hc : ∀ f a h, LeR (call f a h) (call' f a h)) {f : Nat} {a : List Val} {h : Heap} {K K' : Val → Heap → R} (hK : ∀ v h, LeR (K v h) (K' v h)) : LeR (clC call f a h K) (clC call' f a h K') := by
  unfold clC
  intro r hr
  cases e : call f a h with
  | none => rw [e] at hr; cases hr
  | some q =>
    rw [e] at hr
    rw [hc _ _ _ _ e]
    exact hK _ _ _ hr
theorem cvC_mono {call call' : Call} (hc : ∀ f a h, LeR (call f a h) (call' f a h)) {f : Val} {a : List Val} {h : Heap} {K K' : Val → Heap → R} (hK : ∀ v h, LeR (K v h) (K' v h)) : LeR (cvC call f a h K) (cvC call' f a h K') := by
  unfold cvC
  split
  · exact clC_mono hc hK
  · exact .no
theorem step_mono {call call' : Call} (hc : ∀ f a h, LeR (call f a h) (call' f a h)) {σ : Slots} {h : Heap} {o : Op} {K K' : Val → Heap → R} (hK : ∀ v h, LeR (K v h) (K' v h)) : LeR (step call σ h o K) (step call' σ h o K') := by
  cases o with
  | cl f a => exact clC_mono hc hK
  | cv f a => exact cvC_mono hc hK
  | no => exact .no
  | mov x => exact hK _ _
  | alloc x => exact hK _ _
  | mkf x y => exact hK _ _
  | mkm => exact hK _ _
  | _ =>
    simp only [step, pickC, ldC, stC, nilC, faC, biC, shC, cmC, ceaC, ceC, cssC, addSC, notC, negC, cplC, cviC, cvsC, cvbC, slsC, sllC, slxC, slaC, ixpC, ixsC, ixtC, ixaC, fdC, exC, lensC, lenlC, lenmC, capC, appC, cpyC, mnC, mxC, mspC, msmC, lkC, mpuC, mkiC, aggC, bslC, boxC, cond_eq_ite]
    repeat' split
    all_goals first
      | exact hK _ _
      | exact .no
theorem operC_mono {call call' : Call} (hc : ∀ f a h, LeR (call f a h) (call' f a h)) {σ : Slots} {h : Heap} {o : Oper} {K K' : Val → Heap → R} (hK : ∀ v h, LeR (K v h) (K' v h)) : LeR (operC call σ h o K) (operC call' σ h o K') := by
  unfold operC
  split
  · exact step_mono hc hK
  · exact gdC_mono (fun k => step_mono hc fun _ _ => .rfl) hK
theorem ops_mono {call call' : Call} (hc : ∀ f a h, LeR (call f a h) (call' f a h)) : ∀ (l : List Oper) {σ : Slots} {h : Heap} {K K' : Slots → Heap → R} (hK : ∀ σ h, LeR (K σ h) (K' σ h)), LeR (ops call l σ h K) (ops call' l σ h K')
  | [], _, _, _, _, hK => hK _ _
  | o :: l, _, _, _, _, hK => operC_mono hc fun _ _ => ops_mono hc l hK
theorem dops_mono {call call' : Call} (hc : ∀ f a h, LeR (call f a h) (call' f a h)) : ∀ (l : List DOp) {σ : Slots} {h : Heap} {K K' : Slots → Heap → R} (hK : ∀ σ h, LeR (K σ h) (K' σ h)), LeR (dops call l σ h K) (dops call' l σ h K')
  | [], _, _, _, _, hK => hK _ _
  | .real _ o :: l, _, _, _, _, hK => operC_mono hc fun _ _ => dops_mono hc l hK
  | .chk o :: l, _, _, _, _, hK => operC_mono hc fun u _ => by
      cases eqv u _
      · exact .no
      · exact dops_mono hc l hK
theorem iter_mono {F F' : (List Val → Heap → R) → List Val → Heap → R} (hF : ∀ r r', (∀ v h, LeR (r v h) (r' v h)) → ∀ v h, LeR (F r v h) (F' r' v h)) : ∀ (n m : Nat), n ≤ m → ∀ v h, LeR (iter n F v h) (iter m F' v h)
  | 0, _, _, _, _ => .no
  | n + 1, 0, hm, _, _ => absurd hm (by omega)
  | n + 1, m + 1, hm, v, h => hF _ _ (fun v h => iter_mono hF n m (by omega) v h) v h
theorem cnd_mono {c : Val} {a b a' b' : R} (h1 : LeR a a') (h2 : LeR b b') : LeR (cnd c a b) (cnd c a' b') := by
  unfold cnd
  split
  · exact h1
  · exact h2
  · exact .no
theorem exec_mono {call call' : Call} (hc : ∀ f a h, LeR (call f a h) (call' f a h)) {n m : Nat} (hn : n ≤ m) : ∀ (c : Code) {K K' : Exit → Slots → Heap → R} {σ : Slots} {h : Heap} (hK : ∀ e σ h, LeR (K e σ h) (K' e σ h)), LeR (exec call n c K σ h) (exec call' m c K' σ h)
  | .skip, _, _, _, _, hK => hK _ _ _
  | .region l, _, _, _, _, hK => ops_mono hc l fun _ _ => hK _ _ _
  | .draw l, _, _, _, _, hK => dops_mono hc l fun _ _ => hK _ _ _
  | .seq a b, _, _, _, _, hK => exec_mono hc hn a fun e σ h => by
      cases e with
      | normal => exact exec_mono hc hn b hK
      | _ => exact hK _ _ _
  | .cond c a b, _, _, _, _, hK => cnd_mono (exec_mono hc hn a hK) (exec_mono hc hn b hK)
  | .block id a, _, _, _, _, hK => exec_mono hc hn a fun e σ h => by
      cases e with
      | exit i =>
        show LeR (bif i.beq id then _ else _) (bif i.beq id then _ else _)
        cases i.beq id
        · exact hK _ _ _
        · exact hK _ _ _
      | _ => exact hK _ _ _
  | .scope a, _, _, _, _, hK => exec_mono hc hn a hK
  | .loop vs ms a, K, K', σ, _, hK => by
      simp only [exec]
      refine iter_mono ?_ n m hn _ _
      intro r r' hr v h
      refine exec_mono hc hn a fun e σ h => ?_
      cases e with
      | normal => exact hr _ _
      | _ => exact hK _ _ _
  | .exit id, _, _, _, _, hK => hK _ _ _
  | .ret, _, _, _, _, hK => hK _ _ _
  | .no, _, _, _, _, _ => .no
theorem runFn_mono {call call' : Call} (hc : ∀ f a h, LeR (call f a h) (call' f a h)) {n m : Nat} (hn : n ≤ m) (f : Fn) (a : List Val) (h : Heap) : LeR (runFn call n f a h) (runFn call' m f a h) := by
  cases f with
  | prim F => exact .rfl
  | code np nt res body =>
    simp only [runFn]
    cases a.length.beq np
    · exact .rfl
    · exact exec_mono hc hn body fun e σ h => .rfl
theorem run_mono {tbl : Nat → Option Fn} : ∀ (n m : Nat), n ≤ m → ∀ f a h, LeR (run tbl n f a h) (run tbl m f a h)
  | 0, _, _, _, _, _ => .no
  | n + 1, 0, hm, _, _, _ => absurd hm (by omega)
  | n + 1, m + 1, hm, f, a, h => by
    simp only [run]
    split
    · exact runFn_mono (fun f a h => run_mono n m (by omega) f a h) (by omega) _ _ _
    · exact .no
def Ev (tbl : Nat → Option Fn) (f : Nat) (a : List Val) (h : Heap) (v : Val) (h' : Heap) : Prop := ∃ n, ∀ m, n ≤ m → run tbl m f a h = some (v, h')
theorem Ev.of {tbl : Nat → Option Fn} {f : Nat} {a : List Val} {h : Heap} {v : Val} {h' : Heap} {n : Nat} (e : run tbl n f a h = some (v, h')) : Ev tbl f a h v h' := ⟨n, fun m hm => run_mono n m hm f a h _ e⟩
end Go.AM
