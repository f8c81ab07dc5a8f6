import Derived.Test.YtfpkdeokpomocaaAMDr1
import Derived.Test.YtfpkdeokpomocaaAMRel
set_option linter.constructorNameAsVariable false
set_option linter.unusedVariables false
set_option linter.unusedSimpArgs false
set_option linter.unusedVariables false
set_option linter.unusedSimpArgs false
namespace Go.AM
open Go
theorem eqB_eq : ∀ {a b : List UInt8}, eqB a b = true → a = b
  | [], [], _ => rfl
  | x :: a, y :: b, h => by
    simp only [eqB, Bool.and_eq_true] at h
    have h1 := Nat.eq_of_beq_eq_true h.1
    rw [UInt8.toNat_inj.1 h1, eqB_eq h.2]
  | [], _ :: _, h => by cases h
  | _ :: _, [], h => by cases h
theorem eqo_eq {a b : Own} (h : eqo a b = true) : a = b := by
  cases a <;> cases b <;> simp only [eqo] at h <;> first | rfl | (cases h; done) | (rw [Nat.eq_of_beq_eq_true h])
mutual
theorem eqv_eq : ∀ (a b : Val), eqv a b = true → a = b
  | .unk, b, h => by cases b <;> simp_all [eqv]
  | .bool x, b, h => by cases b <;> simp_all [eqv]
  | .int j x, b, h => by
    cases b <;> simp_all [eqv]
    rename_i k y
    obtain ⟨h, rfl⟩ := h
    cases j <;> cases k <;> simp [IntKind.toNat] at h <;> rfl
  | .str x, b, h => by
    cases b <;> simp_all [eqv]
    exact eqB_eq h
  | .nilp, b, h => by cases b <;> simp_all [eqv]
  | .ptr x y, b, h => by cases b <;> simp_all [eqv]
  | .ep x, b, h => by
    cases b <;> simp_all [eqv]
    exact eqvs_eq _ _ h
  | .sl u z x, b, h => by
    cases b <;> simp_all [eqv]
    obtain ⟨⟨h1, rfl⟩, h2⟩ := h
    exact ⟨eqo_eq h1, eqvs_eq _ _ h2⟩
  | .ms .., b, h => by cases b <;> simp_all [eqv]
  | .func f x, b, h => by
    cases b <;> simp_all [eqv]
    exact eqvs_eq _ _ h.2
  | .agg x, b, h => by
    cases b <;> simp_all [eqv]
    exact eqvs_eq _ _ h
  | .tup x, b, h => by
    cases b <;> simp_all [eqv]
    exact eqvs_eq _ _ h
  | .iface t x, b, h => by
    cases b <;> simp_all [eqv]
    exact eqv_eq _ _ h.2
  | .nili, b, h => by cases b <;> simp_all [eqv]
  | .map x, b, h => by cases b <;> simp_all [eqv]
  | .nilm, b, h => by cases b <;> simp_all [eqv]
  | .nilf, b, h => by cases b <;> simp_all [eqv]
theorem eqvs_eq : ∀ (a b : List Val), eqvs a b = true → a = b
  | [], b, h => by cases b <;> simp_all [eqvs]
  | x :: a, b, h => by
    cases b <;> simp_all [eqvs]
    exact ⟨eqv_eq _ _ h.1, eqvs_eq _ _ h.2⟩
 end
theorem tells_of {call : Call} {σ : Slots} {o : Oper} {v : Val} {h : Heap} (hs : operC call σ h o ret = some (v, h)) : Tells call σ o v h := by
  intro K; rw [oper_bnd, hs]; rfl
theorem tells_iff {call : Call} {σ : Slots} {o : Oper} {v : Val} {h : Heap} (hs : Tells call σ o v h) : operC call σ h o ret = some (v, h) := hs ret
theorem oper_p {call : Call} {σ : Slots} {o : Oper} (hk : o.kd = .p) {h h' : Heap} {v : Val} (hs : operC call σ h o ret = some (v, h')) : h' = h ∧ ∀ g, Tells call σ o v g := by
  have hp : okd o.op = .p := by
    unfold Oper.kd at hk
    split at hk
    · cases hk
    · exact hk
  unfold operC at hs
  split at hs
  · rename_i hg
    refine ⟨(step_p call σ o.op hp h h v h' hs).1, fun g => tells_of ?_⟩
    unfold operC
    rw [hg]
    exact (step_p call σ o.op hp h g v h' hs).2
  · rename_i gi b hg
    unfold gdC at hs
    split at hs
    · rename_i c hc
      cases hcb : (c == b) with
      | true =>
        simp only [hcb, cond_true] at hs
        split at hs
        · rename_i v2 h2 e
          simp only [ret, Option.some.injEq, Prod.mk.injEq] at hs
          obtain ⟨rfl, rfl⟩ := hs
          refine ⟨(step_p call σ o.op hp h h _ _ e).1, fun g => tells_of ?_⟩
          have e2 := (step_p call σ o.op hp h g _ _ e).2
          unfold operC
          rw [hg]
          simp only [gdC, hc, hcb, cond_true]
          change (match step call σ g o.op ret with | some (v, h) => ret v h | none => none) = _
          rw [e2]
          rfl
        · cases hs
      | false =>
        simp only [hcb, cond_false, ret, Option.some.injEq, Prod.mk.injEq] at hs
        obtain ⟨rfl, rfl⟩ := hs
        refine ⟨rfl, fun g => tells_of ?_⟩
        unfold operC
        rw [hg]
        simp only [gdC, hc, hcb, cond_false]
        rfl
    · rename_i hc
      simp only [ret, Option.some.injEq, Prod.mk.injEq] at hs
      obtain ⟨rfl, rfl⟩ := hs
      refine ⟨rfl, fun g => tells_of ?_⟩
      unfold operC
      rw [hg]
      simp only [gdC, hc]
      rfl
    · cases hs
theorem oper_r {call : Call} {σ : Slots} {o : Oper} (hk : o.kd = .r) {h h' : Heap} {v : Val} (hs : operC call σ h o ret = some (v, h')) : h' = h := by
  have hp : okd o.op = .r := by
    unfold Oper.kd at hk
    split at hk
    · cases hk
    · exact hk
  unfold operC at hs
  split at hs
  · exact step_r call σ o.op hp h v h' hs
  · rename_i gi b hg
    unfold gdC at hs
    split at hs
    · rename_i c hc
      cases hcb : (c == b) with
      | true =>
        simp only [hcb, cond_true] at hs
        split at hs
        · rename_i v2 h2 e
          simp only [ret, Option.some.injEq, Prod.mk.injEq] at hs
          obtain ⟨rfl, rfl⟩ := hs
          exact step_r call σ o.op hp h _ _ e
        · cases hs
      | false =>
        simp only [hcb, cond_false, ret, Option.some.injEq, Prod.mk.injEq] at hs
        exact hs.2.symm
    · simp only [ret, Option.some.injEq, Prod.mk.injEq] at hs
      exact hs.2.symm
    · cases hs
theorem oper_a {o : Oper} (hk : o.kd = .a) : ∃ cs, o.op = .alloc cs ∧ o.g = none := by
  obtain ⟨d, op, g⟩ := o
  cases g with
  | some g =>
    unfold Oper.kd at hk
    cases op <;> simp_all [okd]
  | none =>
    unfold Oper.kd at hk
    cases op <;> simp_all [okd]
theorem at_add {h : Heap} (hlt : ∀ b x, h.blk b = some x → b < h.next) (x : Blk) {b q n : Nat} {cs : List Val} (hk : h.at b q n = some cs) : (h.add x).at b q n = some cs := by
  unfold Heap.at at hk ⊢
  split at hk
  · rename_i l hl
    rw [Heap.blk_add, if_neg (by have := hlt _ _ hl; omega), hl]
    exact hk
  · cases hk
theorem step_r_add (call : Call) (σ : Slots) (s : Op) (hk : okd s = .r) {h : Heap} (hlt : ∀ b x, h.blk b = some x → b < h.next) (x : Blk) {v : Val} (hs : step call σ h s ret = some (v, h)) : step call σ (h.add x) s ret = some (v, h.add x) := by
  cases s <;> simp only [okd] at hk <;> (try (cases hk; done))
  case ld g n p =>
    simp only [step, ldC] at hs ⊢
    split at hs
    · rename_i b q e
      split at hs
      · rename_i cs hc
        simp only [ret, Option.some.injEq, Prod.mk.injEq] at hs
        simp only [at_add hlt x hc, hs.1, ret]
      · cases hs
    · split at hs
      · rename_i cs hc
        simp only [ret, Option.some.injEq, Prod.mk.injEq] at hs
        simp only [hc, hs.1, ret]
      · cases hs
    · cases hs
  case cvs p =>
    simp only [step, cvsC] at hs ⊢
    split at hs
    · split at hs
      · rename_i s hc
        simp only [ret, Option.some.injEq, Prod.mk.injEq] at hs
        simp only [hc, hs.1, ret]
      · cases hs
    · rename_i b q n c z e
      split at hs
      · rename_i s hc
        obtain ⟨l, h1, h2⟩ := Option.bind_eq_some_iff.1 hc
        simp only [ret, Option.some.injEq, Prod.mk.injEq] at hs
        simp only [at_add hlt x h1, Option.bind_some, h2, hs.1, ret]
      · cases hs
    · cases hs
  case lenm p =>
    simp only [step, lenmC] at hs ⊢
    split at hs
    · simp only [ret, Option.some.injEq, Prod.mk.injEq] at hs
      simp only [hs.1, ret]
    · split at hs
      · rename_i b e l hc
        simp only [ret, Option.some.injEq, Prod.mk.injEq] at hs
        rw [Heap.blk_add, if_neg (by have := hlt _ _ hc; omega), hc]
        simp only [hs.1, ret]
      · cases hs
    · cases hs
  case lk ks zero ok m k =>
    simp only [step, lkC] at hs ⊢
    split at hs
    · simp only [ret, Option.some.injEq, Prod.mk.injEq] at hs
      simp only [hs.1, ret]
    · split at hs
      · rename_i b e l hc
        rw [Heap.blk_add, if_neg (by have := hlt _ _ hc; omega), hc]
        simp only
        split at hs
        · rename_i v0 hf
          simp only [ret, Option.some.injEq, Prod.mk.injEq] at hs
          simp only [hf, hs.1, ret]
        · rename_i hf
          simp only [ret, Option.some.injEq, Prod.mk.injEq] at hs
          simp only [hf, hs.1, ret]
        · cases hs
      · cases hs
    · cases hs
theorem oper_r_add {call : Call} {σ : Slots} {o : Oper} (hk : o.kd = .r) {h : Heap} (hlt : ∀ b x, h.blk b = some x → b < h.next) (x : Blk) {v : Val} (ht : Tells call σ o v h) : Tells call σ o v (h.add x) := by
  have hs := tells_iff ht
  refine tells_of ?_
  have hp : okd o.op = .r := by
    unfold Oper.kd at hk
    split at hk
    · cases hk
    · exact hk
  unfold operC at hs
  split at hs
  · rename_i hg
    unfold operC
    rw [hg]
    exact step_r_add call σ o.op hp hlt x hs
  · rename_i gi b hg
    unfold operC
    rw [hg]
    unfold gdC at hs
    split at hs
    · rename_i c hc
      cases hcb : (c == b) with
      | true =>
        simp only [hcb, cond_true] at hs
        split at hs
        · rename_i v2 h2 e
          simp only [ret, Option.some.injEq, Prod.mk.injEq] at hs
          obtain ⟨rfl, rfl⟩ := hs
          have e2 := step_r_add call σ o.op hp hlt x e
          simp only [gdC, hc, hcb, cond_true]
          change (match step call σ (h2.add x) o.op ret with | some (v, h) => ret v h | none => none) = _
          rw [e2]
          rfl
        · cases hs
      | false =>
        simp only [hcb, cond_false, ret, Option.some.injEq, Prod.mk.injEq] at hs
        simp only [gdC, hc, hcb, cond_false, ret, hs.1]
    · rename_i hc
      simp only [ret, Option.some.injEq, Prod.mk.injEq] at hs
      rw [← hs.1]
      simp only [gdC, hc, ret]
    · cases hs
structure Grp where
  i : Nat
  o : Oper
  cks : List Oper
def cksOf : List DOp → List Oper
  | .chk c :: l => c :: cksOf l
  | _ => []
def grps : List DOp → List Grp
  | [] => []
  | .chk _ :: l => grps l
  | .real i o :: l => ⟨i, o, cksOf l⟩ :: grps l
structure Trc (call : Call) (G : List Grp) (S : Nat → Slots) (H : Nat → Heap) (V : Nat → Val) : Prop where
  run : ∀ p g, G[p]? = some g → operC call (S p) (H p) g.o ret = some (V p, H (p + 1))
  set : ∀ p g, G[p]? = some g → S (p + 1) = setD (S p) g.o.d (V p)
  chk : ∀ p g c, G[p]? = some g → c ∈ g.cks → ∃ u h', operC call (S (p + 1)) (H (p + 1)) c ret = some (u, h') ∧ u = getN (S (p + 1)) (c.d.getD 0)
def shift {α : Type} (x : α) (f : Nat → α) : Nat → α
  | 0 => x
  | n + 1 => f n
theorem dops_trace {call : Call} : ∀ (l : List DOp) (σ : Slots) (h : Heap) (K : Slots → Heap → R) (r : Val × Heap), dops call l σ h K = some r →
    (∀ c ∈ cksOf l, ∃ u h', operC call σ h c ret = some (u, h') ∧ u = getN σ (c.d.getD 0)) ∧
    ∃ S H V, Trc call (grps l) S H V ∧ S 0 = σ ∧ H 0 = h ∧ K (S (grps l).length) (H (grps l).length) = some r
  | [], σ, h, K, r, hk => ⟨fun c hc => (by cases hc), fun _ => σ, fun _ => h, fun _ => .unk, ⟨fun p g hg => (by simp [grps] at hg), fun p g hg => (by simp [grps] at hg), fun p g c hg => (by simp [grps] at hg)⟩, rfl, rfl, hk⟩
  | .chk c :: l, σ, h, K, r, hk => by
    simp only [dops] at hk
    rw [oper_bnd] at hk
    cases hc : operC call σ h c ret with
    | none => rw [hc] at hk; cases hk
    | some x =>
      obtain ⟨u, h'⟩ := x
      rw [hc] at hk
      simp only [bnd2] at hk
      cases he : eqv u (getN σ (c.d.getD 0)) with
      | false => rw [he] at hk; cases hk
      | true =>
        rw [he, cond_true] at hk
        obtain ⟨h1, h2⟩ := dops_trace l σ h K r hk
        refine ⟨fun c' hc' => ?_, h2⟩
        simp only [cksOf, List.mem_cons] at hc'
        rcases hc' with rfl | hc'
        · exact ⟨u, h', hc, eqv_eq _ _ he⟩
        · exact h1 c' hc'
  | .real i o :: l, σ, h, K, r, hk => by
    simp only [dops] at hk
    rw [oper_bnd] at hk
    cases hc : operC call σ h o ret with
    | none => rw [hc] at hk; cases hk
    | some x =>
      obtain ⟨v, h'⟩ := x
      rw [hc] at hk
      simp only [bnd2] at hk
      obtain ⟨h1, S, H, V, ht, hS, hH, hK⟩ := dops_trace l (setD σ o.d v) h' K r hk
      refine ⟨fun c hc => (by cases hc), shift σ S, shift h H, shift v V, ⟨fun p g hg => ?_, fun p g hg => ?_, fun p g c hg hcm => ?_⟩, rfl, rfl, hK⟩
      · cases p with
        | zero =>
          simp only [grps, List.getElem?_cons_zero, Option.some.injEq] at hg
          subst hg
          simp only [shift, hH]
          exact hc
        | succ p =>
          simp only [grps, List.getElem?_cons_succ] at hg
          exact ht.run p g hg
      · cases p with
        | zero =>
          simp only [grps, List.getElem?_cons_zero, Option.some.injEq] at hg
          subst hg
          simp only [shift, hS]
        | succ p =>
          simp only [grps, List.getElem?_cons_succ] at hg
          exact ht.set p g hg
      · cases p with
        | zero =>
          simp only [grps, List.getElem?_cons_zero, Option.some.injEq] at hg
          subst hg
          simp only [shift, hS, hH]
          exact h1 c hcm
        | succ p =>
          simp only [grps, List.getElem?_cons_succ] at hg
          exact ht.chk p g c hg hcm
end Go.AM
