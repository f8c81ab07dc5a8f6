import Derived.Test.YtfpkdeokpomocaaAMOp
set_option linter.constructorNameAsVariable false
set_option linter.unusedVariables false
set_option linter.unusedSimpArgs false
set_option linter.unusedVariables false
set_option linter.unusedSimpArgs false
namespace Go.AM
open Go
variable {P : Program} {N : Nat} {Q : _root_.Go.Exit → Act → World → Prop} {r : Val × Heap}
structure Keeps (W : List Nat) (σ σ' : Slots) : Prop where
  len : σ'.length = σ.length
  same : ∀ i, i ∉ W → getN σ' i = getN σ i
theorem Keeps.refl (W : List Nat) (σ : Slots) : Keeps W σ σ := ⟨rfl, fun _ _ => rfl⟩
theorem Keeps.trans {W V : List Nat} {a b c : Slots} (h : Keeps W a b) (k : Keeps V b c) : Keeps (W ++ V) a c :=
  ⟨k.len.trans h.len, fun i hi => (k.same i (fun e => hi (List.mem_append_right _ e))).trans (h.same i (fun e => hi (List.mem_append_left _ e)))⟩
theorem Keeps.mono {W V : List Nat} {a b : Slots} (h : Keeps W a b) (hs : ∀ i, i ∈ W → i ∈ V) : Keeps V a b := ⟨h.len, fun i hi => h.same i fun e => hi (hs i e)⟩
theorem Keeps.set (σ : Slots) (d : Option Nat) (v : Val) : Keeps d.toList σ (setD σ d v) := by
  cases d with
  | none => exact .refl _ _
  | some d =>
    refine ⟨length_setN σ d v, fun i hi => ?_⟩
    simp only [Option.toList_some, List.mem_singleton] at hi
    simp only [setD, getN_setN]
    rw [if_neg (fun e => hi e.1)]
def okGuard (ops : Array GOper) : Option (Nat × Bool) → Option (Nat × Bool) → Bool
  | none, none => true
  | some (g, b), some (j, c) => b == c && decide ((ops[j]?).bind (·.dst) = some g)
  | _, _ => false
def okOper (P : Program) (ops : Array GOper) (s : Oper) (o : GOper) : Bool := decide (s.d = o.dst) && okGuard ops s.g o.guard && okOp P s.op o.op
def okOps (P : Program) (ops : Array GOper) : List Oper → List GOper → Bool
  | [], [] => true
  | s :: l, o :: os => okOper P ops s o && okOps P ops l os
  | _, _ => false
def opsW : List Oper → List Nat
  | [] => []
  | o :: l => o.d.toList ++ opsW l
def SCont (Γ : Gam) (w : World) (N : Nat) (W : List Nat) (σ : Slots) (K : Slots → Heap → R) (r : Val × Heap) (a : Act) (G : Act → World → Prop) : Prop :=
  ∀ σ' h Δ a' w', K σ' h = some r → Γ.Le Δ → Frame Γ Δ w w' → HRel Δ h w' N → SRel Δ σ' a'.tmps → a'.defers = a.defers → Keeps W σ σ' → G a' w'
theorem defers_put (a : Act) (d : Option Nat) (x : Value) : (a.put d x).defers = a.defers := by cases d <;> rfl
theorem wanted_of {Γ : Gam} {σ : Slots} {a : Act} (hs : SRel Γ σ a.tmps) {ops : Array GOper} {o : GOper} {g : Nat} {b : Bool} (hg : okGuard ops (some (g, b)) o.guard = true) :
    (∀ c, getN σ g = .bool c → Region.wanted o (yielded ops a.tmps) = (c == b)) ∧ (getN σ g = .tup [] → Region.wanted o (yielded ops a.tmps) = false) := by
  unfold okGuard at hg
  split at hg
  · simp_all
  · rename_i g' b' j c h1 h2
    simp only [Option.some.injEq, Prod.mk.injEq] at h1
    obtain ⟨rfl, rfl⟩ := h1
    simp only [Bool.and_eq_true, beq_iff_eq, decide_eq_true_eq] at hg
    obtain ⟨rfl, hd⟩ := hg
    have hget := hs.get g
    have hlt : ∀ v, getN σ g = v → v ≠ .unk → a.tmps[g]? = some (a.tmps.getD g undef) := by
      intro v hv hne
      have : g < σ.length := by
        rcases Nat.lt_or_ge g σ.length with h | h
        · exact h
        · rw [getN_ge h] at hv; exact absurd hv.symm hne
      rw [hs.len] at this
      simp [this]
    have hy : ∀ x, a.tmps[g]? = some x → yielded ops a.tmps j = (match x with | .bool b => some b | _ => none) := by
      intro x hx
      unfold yielded
      rw [hd]
      simp only [Option.bind_some, hx]
      cases x <;> rfl
    refine ⟨fun c hc => ?_, fun hc => ?_⟩
    · have hx := ob hget hc
      have h3 := hlt _ hc (by simp)
      rw [hx] at h3
      simp only [Region.wanted, h2, hy _ h3]
      cases c <;> cases b <;> rfl
    · rw [hc] at hget
      obtain ⟨vs, e1, -⟩ := (hget (by simp)).tup_inv
      have h3 := hlt _ hc (by simp)
      rw [e1] at h3
      simp only [Region.wanted, h2, hy _ h3]
      cases b <;> rfl
  · cases hg
theorem oper_sound {call : Call} (hcall : CallOk P N call) {gops : Array GOper} {s : Oper} {o : GOper} {i : Nat} (hi : gops[i]? = some o) (hok : okOper P gops s o = true) {Γ : Gam} {h : Heap} {w : World} {σ : Slots} {a : Act}
    {K : Val → Heap → R} {next : Act → World → Prop}
    (hk : operC call σ h s K = some r) (hs : SRel Γ σ a.tmps) (hh : HRel Γ h w N) (hN : N ≤ w.heap.size) (hc : Cont Γ w N K r a o.dst next) :
    wpOp P gops Q i next a w := by
  simp only [okOper, Bool.and_eq_true, decide_eq_true_eq] at hok
  obtain ⟨⟨hd, hgd⟩, hop⟩ := hok
  unfold wpOp
  simp only [hi]
  unfold operC at hk
  split at hk
  · rename_i hg0
    rw [hg0] at hgd
    have hw : Region.wanted o (yielded gops a.tmps) = true := by
      cases hog : o.guard with
      | none => simp [Region.wanted, hog]
      | some x => rw [hog] at hgd; simp [okGuard] at hgd
    rw [if_pos hw]
    exact .inl (op_sound hcall s.op hop hs hh hN hk hc)
  · rename_i g b hg0
    rw [hg0] at hgd
    obtain ⟨h1, h2⟩ := wanted_of hs hgd
    unfold gdC at hk
    split at hk
    · rename_i c hcv
      have hw := h1 c hcv
      cases hcb : (c == b) with
      | true =>
        rw [hcb] at hw hk
        rw [if_pos hw]
        simp only [cond_true] at hk
        split at hk
        · rename_i v h' hst
          refine .inl (op_sound hcall s.op hop hs hh hN (K := fun v h => some (v, h)) (r := (v, h')) hst ?_)
          intro v1 h1' x w' Δ he hle hfr hh' hv
          simp only [Option.some.injEq, Prod.mk.injEq] at he
          obtain ⟨rfl, rfl⟩ := he
          exact hc _ _ x w' Δ hk hle hfr hh' hv
        · cases hk
      | false =>
        rw [hcb] at hw hk
        rw [if_neg (by rw [hw]; simp)]
        exact hc _ _ undef w Γ hk (.refl Γ) (.refl Γ w) hh (VRel.tup [] #[] rfl (fun i hi => absurd hi (Nat.not_lt_zero i))).u
    · rename_i hcv
      have hw := h2 hcv
      rw [if_neg (by rw [hw]; simp)]
      exact hc _ _ undef w Γ hk (.refl Γ) (.refl Γ w) hh (VRel.tup [] #[] rfl (fun i hi => absurd hi (Nat.not_lt_zero i))).u
    · cases hk
theorem ops_sound {call : Call} (hcall : CallOk P N call) {gops : Array GOper} : ∀ (l : List Oper) (os : List GOper) (k : Nat), okOps P gops l os = true → (∀ j o, os[j]? = some o → gops[k + j]? = some o) →
    ∀ (Γ : Gam) (h : Heap) (w : World) (σ : Slots) (a : Act) (K : Slots → Heap → R), ops call l σ h K = some r → SRel Γ σ a.tmps → HRel Γ h w N → N ≤ w.heap.size → SCont Γ w N (opsW l) σ K r a (Q .normal) →
    wpOps P gops Q (List.range' k l.length) a w
  | [], [], k, _, _, Γ, h, w, σ, a, K, hk, hs, hh, hN, hc => by
    exact hc σ h Γ a w hk (.refl Γ) (.refl Γ w) hh hs rfl (.refl _ _)
  | s :: l, o :: os, k, hok, hos, Γ, h, w, σ, a, K, hk, hs, hh, hN, hc => by
    simp only [okOps, Bool.and_eq_true] at hok
    have hi : gops[k]? = some o := by simpa using hos 0 o rfl
    rw [List.length_cons, List.range'_succ, wpOps_cons]
    have hd : s.d = o.dst := by
      have := hok.1
      simp only [okOper, Bool.and_eq_true, decide_eq_true_eq] at this
      exact this.1.1
    refine oper_sound (r := r) hcall hi hok.1 (K := fun v h => ops call l (setD σ s.d v) h K) ?_ hs hh hN ?_
    · exact hk
    · intro v h' x w' Δ hk' hle hfr hh' hv
      refine ops_sound hcall l os (k + 1) hok.2 (fun j o hj => by have := hos (j + 1) o (by simpa using hj); rwa [show k + 1 + j = k + (j + 1) by omega]) Δ h' w' (setD σ s.d v) (a.put o.dst x) K hk' ?_ hh' (Nat.le_trans hN hfr.size) ?_
      · rw [← hd]; exact (hs.mono hle).setD hv
      · intro σ' h2 Δ2 a2 w2 hk2 hle2 hfr2 hh2 hs2 hdf hkp
        exact hc σ' h2 Δ2 a2 w2 hk2 (hle.trans hle2) (hfr.trans hfr2) hh2 hs2 (hdf.trans (defers_put a o.dst x)) ((Keeps.set σ s.d v).trans hkp)
  | [], _ :: _, _, h, _, _, _, _, _, _, _, _, _, _, _, _ => by simp [okOps] at h
  | _ :: _, [], _, h, _, _, _, _, _, _, _, _, _, _, _, _ => by simp [okOps] at h
theorem region_sound {call : Call} (hcall : CallOk P N call) {gops : Array GOper} {id : Nat} {l : List Oper} (hok : okOps P gops l gops.toList = true) {Γ : Gam} {h : Heap} {w : World} {σ : Slots} {a : Act} {K : Slots → Heap → R}
    (hk : ops call l σ h K = some r) (hs : SRel Γ σ a.tmps) (hh : HRel Γ h w N) (hN : N ≤ w.heap.size) (hc : SCont Γ w N (opsW l) σ K r a (Q .normal)) : (_root_.Go.Code.region id gops false).wp P Q a w := by
  have hlen : l.length = gops.size := by
    have : ∀ (l : List Oper) (os : List GOper), okOps P gops l os = true → l.length = os.length := by
      intro l
      induction l with
      | nil => intro os h; cases os <;> simp_all [okOps]
      | cons s l ih => intro os h; cases os with
        | nil => simp [okOps] at h
        | cons o os => simp only [okOps, Bool.and_eq_true] at h; simp [ih os h.2]
    simpa using this l _ hok
  have := ops_sound (Q := Q) hcall l gops.toList 0 hok (fun j o hj => by simpa using hj) Γ h w σ a K hk hs hh hN hc
  rw [hlen, ← List.range_eq_range'] at this
  exact wp_region this
end Go.AM
