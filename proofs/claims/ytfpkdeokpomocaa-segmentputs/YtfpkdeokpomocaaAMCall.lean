import Derived.Test.YtfpkdeokpomocaaAMCe
set_option linter.constructorNameAsVariable false
set_option linter.unusedVariables false
set_option linter.unusedSimpArgs false
set_option linter.unusedVariables false
set_option linter.unusedSimpArgs false
namespace Go.AM
open Go
variable {P : Program} {N : Nat} {Γ : Gam} {h : Heap} {w : World} {σ : Slots} {a : Act} {o : GOper} {next : Act → World → Prop}
  {Q : _root_.Go.Exit → Act → World → Prop} {r : Val × Heap} {K : Val → Heap → R}
def okFun (P : Program) (f : Nat) : Bool :=
  match P.funcs[f]? with
  | some fn => !(fn.name == "runtime.NumGoroutine") && fn.body.isSome
  | none => false
structure CallOk (P : Program) (N : Nat) (call : Call) : Prop where
  fn : ∀ f args h r, call f args h = some r → okFun P f = true
  ok : ∀ f args h v h', call f args h = some (v, h') → ∀ Γ w (vs : List Value), HRel Γ h w N → N ≤ w.heap.size → ARel Γ args vs →
    Calls P f vs.toArray w fun e w' => ∃ x Δ, e = .returned x ∧ Γ.Le Δ ∧ Frame Γ Δ w w' ∧ HRel Δ h' w' N ∧ URel Δ v x
theorem run_callFunc {f : Nat} (hf : okFun P f = true) (args : Array Value) (w : World) : (callFunc f args).run P w = .ok (.enter f args) w := by
  unfold okFun at hf
  split at hf
  · rename_i fn hfn
    simp only [Bool.and_eq_true, Bool.not_eq_true', beq_eq_false_iff_ne, ne_eq] at hf
    obtain ⟨c, hcb⟩ := Option.isSome_iff_exists.1 hf.2
    simp [callFunc, hfn, hf.1, hcb]
  · cases hf
theorem wp_call {call : Call} (hcall : CallOk P N call) {f : Nat} {args : List Val} {vs : List Value} (hk : clC call f args h K = some r) (hh : HRel Γ h w N) (hN : N ≤ w.heap.size) (hr : ARel Γ args vs)
    (hx : okFun P f = true → (execOp a.eval o).run P w = .ok (.enter f vs.toArray) w) (hc : Cont Γ w N K r a o.dst next) : o.wp P a w next Q := by
  unfold clC at hk
  split at hk
  · rename_i v h' hcl
    unfold _root_.Go.Oper.wp
    rw [hx (hcall.fn _ _ _ _ hcl), Oper.upon_enter]
    refine (hcall.ok _ _ _ _ _ hcl Γ w vs hh hN hr).mono fun e w' he => ?_
    obtain ⟨x, Δ, rfl, hle, hfr, hh', hv⟩ := he
    exact hc v h' x w' Δ hk hle hfr hh' hv
  · cases hk
theorem sd_cl {call : Call} (hcall : CallOk P N call) (f : Nat) (xs : List X) (os : Array Operand) (at_ : Array TypeId) (ho : o.op = .call { callee := .value (.func f), args := os, argTypes := at_ })
    (h1 : okXs xs os.toList = true) (hs : SRel Γ σ a.tmps) (hh : HRel Γ h w N) (hN : N ≤ w.heap.size)
    (hk : clC call f (evs σ xs) h K = some r) (hc : Cont Γ w N K r a o.dst next) : o.wp P a w next Q := by
  refine wp_call hcall hk hh hN (okXs_sound hs h1) (fun hf => ?_) hc
  have e1 : (os.toList.map a.eval).toArray = os.map a.eval := by rw [← Array.toList_map, Array.toArray_toList]
  rw [e1]
  have hev : a.eval (.func f) = .func (.func f) #[] #[] := rfl
  simp [execOp, ho, resolve, hev, Deferred.ofValue, invoke, run_callFunc hf]
theorem sd_cv {call : Call} (hcall : CallOk P N call) (x : X) (xs : List X) (x' : Operand) (os : Array Operand) (at_ : Array TypeId) (ho : o.op = .call { callee := .value x', args := os, argTypes := at_ })
    (h1 : okXs xs os.toList = true) (h2 : okX x x' = true) (hs : SRel Γ σ a.tmps) (hh : HRel Γ h w N) (hN : N ≤ w.heap.size)
    (hk : cvC call (ev σ x) (evs σ xs) h K = some r) (hc : Cont Γ w N K r a o.dst next) : o.wp P a w next Q := by
  unfold cvC at hk
  split at hk
  · rename_i f cs ex
    have hx := okX_sound hs h2
    rw [ex] at hx
    obtain ⟨vs, e1, hr⟩ := (hx (by simp)).func_inv
    refine wp_call hcall hk hh hN ((okXs_sound hs h1).append hr) (fun hf => ?_) hc
    have e2 : (os.toList.map a.eval ++ vs.toList).toArray = os.map a.eval ++ vs := by
      apply Array.ext'
      simp
    rw [e2]
    simp [execOp, ho, resolve, e1, Deferred.ofValue, invoke, run_callFunc hf]
  · cases hk
theorem sd_ixa (g : Bool) (n z : Nat) (t e : TypeId) (x i : X) (x' i' : Operand) (ho : o.op = .index t x' i') (ht : tArr P t = some (n, e)) (hg : tAgg P e = some g) (hz : tSize P e = some z) (hgz : g = true ∨ z = 1)
    (h1 : okX x x' = true) (h2 : okX i i' = true) (hs : SRel Γ σ a.tmps) (hh : HRel Γ h w N)
    (hk : ixaC g n z (ev σ x) (ev σ i) (fun v => K v h) = some r) (hc : Cont Γ w N K r a o.dst next) : o.wp P a w next Q := by
  unfold ixaC at hk
  split at hk
  · rename_i l k m ex ei
    cases hb : (decide (0 ≤ m) && decide (m < (n : Int))) with
    | false => rw [hb] at hk; cases hk
    | true =>
      rw [hb, cond_true] at hk
      simp only [Bool.and_eq_true, decide_eq_true_eq] at hb
      split at hk
      · rename_i cs hcs
        have hx := okX_sound hs h1
        rw [ex] at hx
        obtain ⟨vs, e1, hr⟩ := (hx (by simp)).agg_inv
        have e2 := oi (okX_sound hs h2) ei
        obtain ⟨l1, hl1, hl2⟩ := Option.bind_eq_some_iff.1 hcs
        obtain ⟨rfl, hd⟩ := dropN_some hl1
        obtain ⟨rfl, htk⟩ := takeN_some hl2
        have hrr := (hr.drop (m.toNat * z)).take z
        have hsz : l.length = vs.size := by simpa using hr.len
        have hg1 : g = true ∨ ((l.drop (m.toNat * z)).take z).length = 1 := by
          rcases hgz with hgn | hgn
          · exact .inl hgn
          · right; simp at htk ⊢; omega
        obtain ⟨y, hy, hyv⟩ := hrr.val (g := g) hg1
        refine wp_pure hc hh (x := y) ?_ hy hk
        have hp := run_part (P := P) (t := e) (vs := vs) (off := m.toNat * z) hg hz hgz (by simp at htk; omega) w
        simp only [execOp, ho, Instr.index, e1, e2, asIntOf, Sem.run_bind, Sem.run_pure, run_underlying (tArr_some ht), Result.andThen_ok, hb, and_self, if_true, Sem.run_ite, run_sizeOf hz, hp, hyv]
      · cases hk
  · cases hk
end Go.AM
