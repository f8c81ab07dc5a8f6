import Derived.Test.YtfpkdeokpomocaaAMCode
set_option linter.constructorNameAsVariable false
set_option linter.unusedVariables false
set_option linter.unusedSimpArgs false
set_option linter.unusedVariables false
set_option linter.unusedSimpArgs false
namespace Go.AM
open Go
variable {P : Program} {N : Nat} {Γ : Gam} {h : Heap} {w : World}
def okRes (P : Program) : List Res → List ResultVar → Bool
  | [], [] => true
  | .tmp t :: l, .tmp t' :: m => t.beq t' && okRes P l m
  | .cell g n t :: l, .cell t' ty :: m => t.beq t' && decide (tAgg P ty = some g) && decide (tSize P ty = some n) && (g || n.beq 1) && okRes P l m
  | _, _ => false
def okFn (P : Program) (dr : List DOp → Array GOper → Bool) (f : Nat) : Fn → Bool
  | .code np nt res body => match P.funcs[f]? with
    | some g => match g.body with
      | some c => okFun P f && (g.ntmps - np).beq nt && okRes P res g.results.toList && okCode P dr body c
      | none => false
    | none => false
  | .prim _ => false
def PrimOk (P : Program) (N : Nat) (f : Nat) (F : List Val → Heap → R) : Prop :=
  okFun P f = true ∧ ∀ args h v h', F args h = some (v, h') → ∀ Γ w (vs : List Value), HRel Γ h w N → N ≤ w.heap.size → ARel Γ args vs →
    Calls P f vs.toArray w fun e w' => ∃ x Δ, e = .returned x ∧ Γ.Le Δ ∧ Frame Γ Δ w w' ∧ HRel Δ h' w' N ∧ URel Δ v x
def TblOk (P : Program) (N : Nat) (dr : List DOp → Array GOper → Bool) (tbl : Nat → Option Fn) : Prop :=
  ∀ f fn, tbl f = some fn → (okFn P dr f fn = true ∨ ∃ F, fn = .prim F ∧ PrimOk P N f F)
def resRun (ts : Array Value) : ResultVar → Sem Value
  | .tmp t => pure (ts.getD t undef)
  | .cell a t => do loadVar t (← asAddr (ts.getD a undef))
theorem resC_sound {σ : Slots} {ts : Array Value} (hs : SRel Γ σ ts) (hh : HRel Γ h w N) : ∀ (l : List Res) (m : List ResultVar) (K : List Val → R) (r : Val × Heap), okRes P l m = true → resC σ h l K = some r →
    ∃ vs xs, K vs = some r ∧ ARel Γ vs xs ∧ (m.mapM (resRun ts)).run P w = .ok xs w
  | [], [], K, r, _, hk => ⟨[], [], hk, .nil Γ, rfl⟩
  | .tmp t :: l, .tmp t' :: m, K, r, hok, hk => by
    simp only [okRes, Bool.and_eq_true] at hok
    have := Nat.eq_of_beq_eq_true hok.1
    subst this
    obtain ⟨vs, xs, h1, h2, h3⟩ := resC_sound hs hh l m (fun vs => K (getN σ t :: vs)) r hok.2 hk
    refine ⟨_, ts.getD t undef :: xs, h1, .cons (hs.get t) h2, ?_⟩
    simp only [List.mapM_cons, resRun, Sem.run_bind, Sem.run_pure, Result.andThen_ok, h3]
  | .cell g n t :: l, .cell t' ty :: m, K, r, hok, hk => by
    simp only [okRes, Bool.and_eq_true, decide_eq_true_eq] at hok
    obtain ⟨⟨⟨⟨k1, k2⟩, k3⟩, k4⟩, k5⟩ := hok
    have := Nat.eq_of_beq_eq_true k1
    subst this
    obtain ⟨cs, h2, h3⟩ := ldC_some hk
    have hne : getN σ t ≠ .unk := fun e => by rw [e] at h2; cases h2
    obtain ⟨B, q, us, e1, hr, hlen, hcell⟩ := ld_cells hh (hs.get t hne) h2
    obtain ⟨y, hy, hyv⟩ := hr.val (g := g) (by rw [hlen]; exact gb k4)
    obtain ⟨vs, xs, h4, h5, h6⟩ := resC_sound hs hh l m (fun vs => K (mk g cs :: vs)) r k5 h3
    have hld := run_loadVar (P := P) (w := w) k2 k3 (gb k4) (by rw [← hr.len, hlen]) hcell
    refine ⟨_, y :: xs, h4, .cons hy h5, ?_⟩
    simp only [List.mapM_cons, resRun, Sem.run_bind, e1, asAddr, Sem.run_pure, Result.andThen_ok, hld, h6, hyv]
  | [], _ :: _, _, _, h, _ => by simp [okRes] at h
  | .tmp _ :: _, [], _, _, h, _ => by simp [okRes] at h
  | .cell _ _ _ :: _, [], _, _, h, _ => by simp [okRes] at h
  | .tmp _ :: _, .cell _ _ :: _, _, _, h, _ => by simp [okRes] at h
  | .cell _ _ _ :: _, .tmp _ :: _, _, _, h, _ => by simp [okRes] at h
theorem one_rel {vs : List Val} {xs : List Value} (h : ARel Γ vs xs) : URel Γ (one vs) (if h : xs.toArray.size = 1 then xs.toArray[0] else .tuple xs.toArray) := by
  unfold one
  split
  · rename_i v
    match xs, h with
    | [x], h => simpa using h.head
    | [], h => have := h.len; simp at this
    | _ :: _ :: _, h => have := h.len; simp at this
  · rename_i hne
    have hl : xs.toArray.size ≠ 1 := fun e => by
      have h1 := h.len
      simp at e
      rw [e] at h1
      obtain ⟨c, hc⟩ := len_one h1
      exact hne c hc
    rw [dif_neg hl]
    exact h.tup.u
theorem getN_append (a b : List Val) (i : Nat) : getN (a ++ b) i = if i < a.length then a.getD i .unk else getN b (i - a.length) := by
  induction a generalizing i with
  | nil => simp
  | cons x a ih =>
    cases i with
    | zero => simp [getN]
    | succ i => simp only [List.cons_append, getN, ih]; simp
theorem getN_reps (n i : Nat) : getN (reps n .unk) i = .unk := by
  induction n generalizing i with
  | zero => rfl
  | succ n ih => cases i <;> simp [reps, getN, ih]
theorem start_rel {args : List Val} {vs : List Value} (h : ARel Γ args vs) (nt : Nat) : SRel Γ (args ++ reps nt .unk) (vs.toArray ++ Array.replicate nt undef) := by
  refine ⟨by simp [h.len, reps_len], fun i _ => ?_⟩
  rw [getN_append]
  split
  · rename_i hi
    have := h.rel i hi
    have hi' : i < vs.length := by rw [← h.len]; exact hi
    simp only [Array.getD_eq_getD_getElem?]
    rw [Array.getElem?_append_left (by simpa using hi')]
    simpa [List.getD_eq_getElem?_getD] using this
  · rw [getN_reps]
    exact fun e => absurd rfl e
theorem fn_sound {call : Call} (hcall : CallOk P N call) {dr : List DOp → Array GOper → Bool} (hdr : DrawOk P N call dr) (fuel f : Nat) (fn : Fn) (hok : okFn P dr f fn = true) {args : List Val} {v : Val} {h' : Heap} (hk : runFn call fuel fn args h = some (v, h'))
    {vs : List Value} (hh : HRel Γ h w N) (hN : N ≤ w.heap.size) (hr : ARel Γ args vs) :
    Calls P f vs.toArray w fun e w' => ∃ x Δ, e = .returned x ∧ Γ.Le Δ ∧ Frame Γ Δ w w' ∧ HRel Δ h' w' N ∧ URel Δ v x := by
  cases fn with
  | prim F => cases hok
  | code np nt res body =>
    simp only [okFn] at hok
    split at hok
    · rename_i g hg
      split at hok
      · rename_i c hcb
        simp only [Bool.and_eq_true] at hok
        obtain ⟨⟨⟨k1, k2⟩, k3⟩, k4⟩ := hok
        have hnt := Nat.eq_of_beq_eq_true k2
        simp only [runFn] at hk
        cases hnp : args.length.beq np with
        | false => rw [hnp] at hk; cases hk
        | true =>
          rw [hnp, cond_true] at hk
          have hnp' := Nat.eq_of_beq_eq_true hnp
          refine calls_of_wp hg hcb ?_
          have hsz : vs.toArray.size = np := by simp [← hr.len, hnp']
          rw [hsz, hnt]
          refine exec_sound (r := (v, h')) hcall hdr fuel body c k4 _ Γ h w (args ++ reps nt .unk) _ _ hk (start_rel hr nt) hh hN ?_
          intro e σ' h2 Δ a' w' hk' hle hfr hh' hs' hd hkp
          have fin : (resC σ' h2 res fun vs => some (one vs, h2)) = some (v, h') → a'.defers = [] ∧ ∃ x, (results g a'.tmps).run P w' = .ok x w' ∧ ∃ y Θ, Ending.returned x = .returned y ∧ Γ.Le Θ ∧ Frame Γ Θ w w' ∧ HRel Θ h' w' N ∧ URel Θ v y := by
            intro hres
            obtain ⟨us, xs, h1, h2', h3⟩ := resC_sound (P := P) hs' hh' res g.results.toList _ _ k3 hres
            simp only [Option.some.injEq, Prod.mk.injEq] at h1
            obtain ⟨rfl, rfl⟩ := h1
            refine ⟨hd, _, ?_, _, Δ, rfl, hle, hfr, hh', one_rel h2'⟩
            have hm : (g.results.mapM (resRun a'.tmps)).run P w' = .ok xs.toArray w' := by
              rw [Array.mapM_eq_mapM_toList]
              simp only [Sem.run_map, h3, Result.andThen_ok]
            have hres : results g a'.tmps = (do
                let vs ← g.results.mapM (resRun a'.tmps)
                pure (if h : vs.size = 1 then vs[0] else .tuple vs)) := rfl
            rw [hres]
            simp only [Sem.run_bind, hm, Result.andThen_ok, Sem.run_pure]
          cases e with
          | exit id => cases hk'
          | normal => exact fin hk'
          | ret => exact fin hk'
      · cases hok
    · cases hok
theorem run_ok {dr : List DOp → Array GOper → Bool} (hdr : ∀ call, CallOk P N call → DrawOk P N call dr) {tbl : Nat → Option Fn} (ht : TblOk P N dr tbl) : ∀ n, CallOk P N (run tbl n)
  | 0 => ⟨fun f args h r hk => (by cases hk), fun f args h v h' hk => (by cases hk)⟩
  | n + 1 => by
    have ih := run_ok hdr ht n
    refine ⟨fun f args h r hk => ?_, fun f args h v h' hk Γ w vs hh hN hr => ?_⟩
    · simp only [run] at hk
      split at hk
      · rename_i fn hfn
        rcases ht f fn hfn with hok | ⟨F, rfl, hp⟩
        · cases fn with
          | prim F => cases hok
          | code np nt res body =>
            simp only [okFn] at hok
            split at hok
            · split at hok
              · simp only [Bool.and_eq_true] at hok; exact hok.1.1.1
              · cases hok
            · cases hok
        · exact hp.1
      · cases hk
    · simp only [run] at hk
      split at hk
      · rename_i fn hfn
        rcases ht f fn hfn with hok | ⟨F, rfl, hp⟩
        · exact fn_sound ih (hdr _ ih) n f fn hok hk hh hN hr
        · exact hp.2 args h v h' hk Γ w vs hh hN hr
      · cases hk
end Go.AM
