import Derived.Test.YtfpkdeokpomocaaAMCore
set_option linter.constructorNameAsVariable false
set_option linter.unusedVariables false
set_option linter.unusedSimpArgs false
set_option linter.unusedVariables false
set_option linter.unusedSimpArgs false
namespace Go.AM
open Go
def ret (v : Val) (h : Heap) : R := some (v, h)
def bnd2 (x : R) (K : Val → Heap → R) : R := match x with
  | some (v, h) => K v h
  | none => none
theorem step_bnd (call : Call) (σ : Slots) (h : Heap) (s : Op) (K : Val → Heap → R) : step call σ h s K = bnd2 (step call σ h s ret) K := by
  cases s <;> simp only [step, allocC, pickC, ldC, stC, nilC, faC, biC, shC, cmC, ceaC, ceC, cssC, addSC, notC, negC, cplC, cviC, cvsC, cvbC, slsC, sllC, slxC, slaC, ixpC, ixsC, ixtC, ixaC, fdC, exC, lensC, lenlC, lenmC, capC, appC, cpyC, mnC, mxC, mspC, msmC, mkmC, lkC, mpuC, clC, cvC, mkiC, aggC, bslC, boxC, cond_eq_ite]
  all_goals first
    | rfl
    | (repeat' (first | rfl | split)
       all_goals first
         | rfl
         | (simp_all [bnd2, ret]; done))
theorem oper_bnd (call : Call) (σ : Slots) (h : Heap) (o : Oper) (K : Val → Heap → R) : operC call σ h o K = bnd2 (operC call σ h o ret) K := by
  unfold operC
  split
  · exact step_bnd call σ h o.op K
  · unfold gdC
    split
    · split <;> rename_i e
      · rfl
      · rfl
    · rfl
    · rfl
def X.ns : X → List Nat
  | .t n => [n]
  | .c _ => []
def xsN : List X → List Nat
  | [] => []
  | x :: l => x.ns ++ xsN l
def xoN : Option X → List Nat
  | none => []
  | some x => x.ns
def xpN : List (Nat × Nat × X) → List Nat
  | [] => []
  | (_, _, x) :: l => x.ns ++ xpN l
def Op.ns : Op → List Nat
  | .mov x => x.ns
  | .pick c a b => c.ns ++ a.ns ++ b.ns
  | .alloc _ => []
  | .box _ x => x.ns
  | .agg _ ps => xpN ps
  | .bsl _ ps => xsN ps
  | .ld _ _ p => p.ns
  | .st _ p x => p.ns ++ x.ns
  | .nil p => p.ns
  | .fa _ p => p.ns
  | .bi _ x y => x.ns ++ y.ns
  | .sh _ x y => x.ns ++ y.ns
  | .cm _ x y => x.ns ++ y.ns
  | .ce _ _ x y => x.ns ++ y.ns
  | .cea _ _ x y => x.ns ++ y.ns
  | .css x => x.ns
  | .adds x y => x.ns ++ y.ns
  | .not x => x.ns
  | .neg x => x.ns
  | .cpl x => x.ns
  | .cvi _ x => x.ns
  | .cvs x => x.ns
  | .cvb x => x.ns
  | .sls x lo hi => x.ns ++ xoN lo ++ xoN hi
  | .sll _ x lo hi => x.ns ++ xoN lo ++ xoN hi
  | .slx _ x lo hi mx => x.ns ++ xoN lo ++ hi.ns ++ mx.ns
  | .sla _ _ x lo hi => x.ns ++ xoN lo ++ xoN hi
  | .ixp _ _ x i => x.ns ++ i.ns
  | .ixs _ x i => x.ns ++ i.ns
  | .ixt x i => x.ns ++ i.ns
  | .ixa _ _ _ x i => x.ns ++ i.ns
  | .fd _ _ _ x => x.ns
  | .ex _ x => x.ns
  | .lens x => x.ns
  | .lenl x => x.ns
  | .lenm x => x.ns
  | .cap x => x.ns
  | .app _ _ s x => s.ns ++ x.ns
  | .cpy _ d x => d.ns ++ x.ns
  | .min x y => x.ns ++ y.ns
  | .max x y => x.ns ++ y.ns
  | .msp _ _ n c => n.ns ++ c.ns
  | .msm _ _ n c => n.ns ++ c.ns
  | .mkm => []
  | .lk _ _ _ m k => m.ns ++ k.ns
  | .mpu _ m k x => m.ns ++ k.ns ++ x.ns
  | .mkf _ cs => xsN cs
  | .mki _ x => x.ns
  | .cl _ args => xsN args
  | .cv f args => f.ns ++ xsN args
  | .no => []
def gN : Option (Nat × Bool) → List Nat
  | none => []
  | some (g, _) => [g]
def Oper.ns (o : Oper) : List Nat := gN o.g ++ o.op.ns
def Agree (ns : List Nat) (σ τ : Slots) : Prop := ∀ n ∈ ns, getN σ n = getN τ n
theorem Agree.app {a b : List Nat} {σ τ : Slots} (h : Agree (a ++ b) σ τ) : Agree a σ τ ∧ Agree b σ τ :=
  ⟨fun n hn => h n (List.mem_append_left _ hn), fun n hn => h n (List.mem_append_right _ hn)⟩
theorem Agree.symm {a : List Nat} {σ τ : Slots} (h : Agree a σ τ) : Agree a τ σ := fun n hn => (h n hn).symm
theorem ev_congr {σ τ : Slots} {x : X} (h : Agree x.ns σ τ) : ev σ x = ev τ x := by
  cases x with
  | t n => exact h n (by simp [X.ns])
  | c v => rfl
theorem evs_congr {σ τ : Slots} : ∀ {l : List X}, Agree (xsN l) σ τ → evs σ l = evs τ l
  | [], _ => rfl
  | x :: l, h => by simp only [evs, ev_congr h.app.1, evs_congr h.app.2]
theorem evo_congr {σ τ : Slots} {x : Option X} (h : Agree (xoN x) σ τ) : evo σ x = evo τ x := by
  cases x with
  | none => rfl
  | some x => simp only [evo, ev_congr h]
theorem evp_congr {σ τ : Slots} : ∀ {l : List (Nat × Nat × X)}, Agree (xpN l) σ τ → evp σ l = evp τ l
  | [], _ => rfl
  | (a, b, x) :: l, h => by simp only [evp, ev_congr h.app.1, evp_congr h.app.2]
theorem step_congr (call : Call) {σ τ : Slots} (h : Heap) (s : Op) (K : Val → Heap → R) (ha : Agree s.ns σ τ) : step call σ h s K = step call τ h s K := by
  cases s <;> simp only [step] <;> simp only [Op.ns] at ha
  all_goals first
    | rfl
    | rw [ev_congr ha]
    | rw [evs_congr ha]
    | rw [evp_congr ha]
    | rw [ev_congr ha.app.1, ev_congr ha.app.2]
    | rw [ev_congr ha.app.1, evs_congr ha.app.2]
    | rw [ev_congr ha.app.1.app.1, ev_congr ha.app.1.app.2, ev_congr ha.app.2]
    | rw [ev_congr ha.app.1.app.1, evo_congr ha.app.1.app.2, evo_congr ha.app.2]
    | rw [ev_congr ha.app.1.app.1.app.1, evo_congr ha.app.1.app.1.app.2, ev_congr ha.app.1.app.2, ev_congr ha.app.2]
theorem oper_congr (call : Call) {σ τ : Slots} (h : Heap) (o : Oper) (K : Val → Heap → R) (ha : Agree o.ns σ τ) : operC call σ h o K = operC call τ h o K := by
  unfold operC
  have h2 := ha.app
  split
  · exact step_congr call h o.op K h2.2
  · rename_i g b hg
    have e1 : getN σ g = getN τ g := by have := h2.1; rw [hg] at this; exact this g (by simp [gN])
    have e2 : step call σ h o.op = step call τ h o.op := by funext K; exact step_congr call h o.op K h2.2
    rw [e1, e2]
inductive OK where
  | p | r | a | e
def okd : Op → OK
  | .mov _ => .p
  | .pick _ _ _ => .p
  | .agg _ _ => .p
  | .bsl _ _ => .p
  | .nil _ => .p
  | .fa _ _ => .p
  | .bi _ _ _ => .p
  | .sh _ _ _ => .p
  | .cm _ _ _ => .p
  | .ce _ _ _ _ => .p
  | .cea _ _ _ _ => .p
  | .css _ => .p
  | .adds _ _ => .p
  | .not _ => .p
  | .neg _ => .p
  | .cpl _ => .p
  | .cvi _ _ => .p
  | .sls _ _ _ => .p
  | .sll _ _ _ _ => .p
  | .slx _ _ _ _ _ => .p
  | .sla _ _ _ _ _ => .p
  | .ixp _ _ _ _ => .p
  | .ixs _ _ _ => .p
  | .ixt _ _ => .p
  | .ixa _ _ _ _ _ => .p
  | .fd _ _ _ _ => .p
  | .ex _ _ => .p
  | .lens _ => .p
  | .lenl _ => .p
  | .cap _ => .p
  | .min _ _ => .p
  | .max _ _ => .p
  | .msp _ _ _ _ => .p
  | .mkf _ _ => .p
  | .mki _ _ => .p
  | .ld _ _ _ => .r
  | .cvs _ => .r
  | .lenm _ => .r
  | .lk _ _ _ _ _ => .r
  | .alloc _ => .a
  | _ => .e
def Oper.kd (o : Oper) : OK := match okd o.op, o.g with
  | .a, some _ => .e
  | k, _ => k
def Tells (call : Call) (σ : Slots) (o : Oper) (v : Val) (h : Heap) : Prop := ∀ K, operC call σ h o K = K v h
theorem step_p (call : Call) (σ : Slots) (s : Op) (hk : okd s = .p) (h g : Heap) (v : Val) (h' : Heap) (hs : step call σ h s ret = some (v, h')) : h' = h ∧ step call σ g s ret = some (v, g) := by
  cases s <;> simp only [okd] at hk <;> (try (cases hk; done)) <;> simp only [step, pickC, nilC, faC, biC, shC, cmC, ceaC, ceC, cssC, addSC, notC, negC, cplC, cviC, slsC, sllC, slxC, slaC, ixpC, ixsC, ixtC, ixaC, fdC, exC, lensC, lenlC, capC, mnC, mxC, mspC, mkiC, aggC, bslC, cond_eq_ite] at hs ⊢
  all_goals first
    | (repeat' (split at hs)
       all_goals first
         | (cases hs; done)
         | (rename_i h1; simp only [ret, Option.some.injEq, Prod.mk.injEq] at hs; obtain ⟨rfl, rfl⟩ := hs; exact ⟨rfl, by first | rw [if_pos h1]; rfl | rw [if_neg h1]; rfl⟩))
    | (simp only [ret, Option.some.injEq, Prod.mk.injEq] at hs ⊢; obtain ⟨rfl, rfl⟩ := hs; exact ⟨rfl, rfl, rfl⟩)
    | (repeat' (split at hs)
       all_goals first
         | (cases hs; done)
         | (simp only [ret, Option.some.injEq, Prod.mk.injEq] at hs; obtain ⟨rfl, rfl⟩ := hs; simp_all [ret]; done)
         | (simp_all [ret]; done)
         | (simp only [ret, Option.some.injEq, Prod.mk.injEq] at hs; obtain ⟨rfl, rfl⟩ := hs; refine ⟨rfl, ?_⟩; simp_all [ret]; try omega))
theorem step_r (call : Call) (σ : Slots) (s : Op) (hk : okd s = .r) (h : Heap) (v : Val) (h' : Heap) (hs : step call σ h s ret = some (v, h')) : h' = h := by
  cases s <;> simp only [okd] at hk <;> (try (cases hk; done)) <;> simp only [step, ldC, cvsC, lenmC, lkC, cond_eq_ite] at hs ⊢
  all_goals
    (repeat' (split at hs)
     all_goals first
       | (cases hs; done)
       | (simp_all [ret]; done))
end Go.AM
