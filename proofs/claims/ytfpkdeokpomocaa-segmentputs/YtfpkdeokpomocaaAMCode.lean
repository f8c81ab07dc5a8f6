import Derived.Test.YtfpkdeokpomocaaAMExec
import Derived.Scope
set_option linter.constructorNameAsVariable false
set_option linter.unusedVariables false
set_option linter.unusedSimpArgs false
set_option linter.unusedVariables false
set_option linter.unusedSimpArgs false
namespace Go.AM
open Go
variable {P : Program} {N : Nat} {Q : _root_.Go.Exit → Act → World → Prop} {r : Val × Heap}
def cv : Exit → _root_.Go.Exit
  | .normal => .normal
  | .exit id => .exit id
  | .ret => .ret
def dopsW : List DOp → List Nat
  | [] => []
  | .real _ o :: l => o.d.toList ++ dopsW l
  | _ :: l => dopsW l
def codeW : Code → List Nat
  | .region l => opsW l
  | .draw l => dopsW l
  | .seq a b => codeW a ++ codeW b
  | .cond _ a b => codeW a ++ codeW b
  | .block _ a => codeW a
  | .scope a => codeW a
  | .loop vs ms a => (vs ++ ms) ++ codeW a
  | _ => []
def ECont (Γ : Gam) (w : World) (N : Nat) (W : List Nat) (σ : Slots) (K : Exit → Slots → Heap → R) (r : Val × Heap) (a : Act) (Q : _root_.Go.Exit → Act → World → Prop) : Prop :=
  ∀ e σ' h Δ a' w', K e σ' h = some r → Γ.Le Δ → Frame Γ Δ w w' → HRel Δ h w' N → SRel Δ σ' a'.tmps → a'.defers = a.defers → Keeps W σ σ' → Q (cv e) a' w'
theorem wp_loop_fuel {c : GCode} (S : Nat → Act → World → Prop) (S0 : ∀ a w, ¬ S 0 a w) (round : ∀ n a w, S (n + 1) a w → c.wp P (_root_.Go.Exit.then (fun a' w' => S n a' w') Q) a w) {n : Nat} {a : Act} {w : World} (h0 : S n a w) :
    (_root_.Go.Code.loop c).wp P Q a w := by
  intro b k cs
  have key : ∀ n a w, S n a w → ∃ e a' w', Q e a' w' ∧ Arrives P (lone (b.at a (.code c :: .inLoop c :: k)) cs w) b k cs e a' w' := by
    intro n
    induction n with
    | zero => intro a w h; exact absurd h (S0 a w)
    | succ n ih =>
      intro a w h
      obtain ⟨e, a₁, w₁, hq, harr⟩ := round n a w h b (.inLoop c :: k) cs
      cases e with
      | normal =>
        obtain ⟨e₂, a₂, w₂, hq₂, harr₂⟩ := ih a₁ w₁ hq
        exact ⟨e₂, a₂, w₂, hq₂, .of_steps (Steps.trans harr (.one step_inLoop)) harr₂⟩
      | exit id => exact ⟨_, a₁, w₁, hq, .pass (x := .inLoop c) rfl (fun _ _ => .inl (by simp)) harr⟩
      | goto l => exact ⟨_, a₁, w₁, hq, .pass (x := .inLoop c) rfl (fun _ _ => .inl (by simp)) harr⟩
      | ret => exact ⟨_, a₁, w₁, hq, .pass (x := .inLoop c) rfl (fun _ _ => .inl (by simp)) harr⟩
      | panic ch => exact ⟨_, a₁, w₁, hq, .pass (x := .inLoop c) rfl (fun _ _ => .inl (by simp)) harr⟩
      | outgrown => exact ⟨_, a₁, w₁, hq, .pass (x := .inLoop c) rfl (fun _ _ => .inl (by simp)) harr⟩
  obtain ⟨e, a', w', hq, harr⟩ := key n a w h0
  exact ⟨e, a', w', hq, .of_steps (.one step_loop) harr⟩
theorem getN_mask : ∀ (ms : List Nat) (σ : Slots) (i : Nat), getN (mask ms σ) i = if i ∈ ms then .unk else getN σ i
  | [], σ, i => by simp [mask]
  | m :: ms, σ, i => by
    rw [mask, getN_mask ms, getN_setN]
    by_cases h1 : i ∈ ms
    · simp [h1]
    · by_cases h2 : i = m
      · subst h2
        by_cases h3 : i < σ.length
        · simp [h3]
        · simp [h3, getN_ge (Nat.le_of_not_lt h3)]
      · simp [h1, h2]
theorem length_mask : ∀ (ms : List Nat) (σ : Slots), (mask ms σ).length = σ.length
  | [], σ => rfl
  | m :: ms, σ => by rw [mask, length_mask ms, length_setN]
theorem length_place (xs : List Val) : ∀ (vs : List Nat) (i : Nat) (σ : Slots), (place xs vs i σ).length = σ.length
  | [], _, _ => rfl
  | v :: vs, i, σ => by rw [place, length_place xs vs, length_setN]
theorem place_same (ρ : Slots) (pre : List Nat) : ∀ (vs : List Nat) (σ : Slots) (j : Nat), σ.length = ρ.length → (getN (place (pickL ρ (pre ++ vs)) vs pre.length σ) j = getN ρ j ∧ j ∈ vs) ∨ (getN (place (pickL ρ (pre ++ vs)) vs pre.length σ) j = getN σ j ∧ (j ∉ vs ∨ getN σ j = getN ρ j))
  | [], σ, j, _ => .inr ⟨rfl, .inl (by simp)⟩
  | v :: vs, σ, j, hl => by
    have hp : ∀ (pre : List Nat) (v : Nat) (vs : List Nat), getN (pickL ρ (pre ++ v :: vs)) pre.length = getN ρ v := by
      intro pre
      induction pre with
      | nil => intro v vs; rfl
      | cons p pre ih => intro v vs; exact ih v vs
    rw [place, hp pre v vs]
    have e1 : pre ++ v :: vs = (pre ++ [v]) ++ vs := by simp
    have e2 : pre.length + 1 = (pre ++ [v]).length := by simp
    rw [e1, e2]
    have hset : getN (setN σ v (getN ρ v)) j = if j = v ∧ v < σ.length then getN ρ v else getN σ j := getN_setN σ v j _
    rcases place_same ρ (pre ++ [v]) vs (setN σ v (getN ρ v)) j (by rw [length_setN]; exact hl) with ⟨h1, h2⟩ | ⟨h1, h2⟩
    · exact .inl ⟨h1, List.mem_cons_of_mem _ h2⟩
    · rw [h1, hset]
      by_cases hj : j = v ∧ v < σ.length
      · rw [if_pos hj]
        exact .inl ⟨by rw [hj.1], by rw [hj.1]; exact List.mem_cons_self⟩
      · rw [if_neg hj]
        right
        refine ⟨rfl, ?_⟩
        by_cases hjv : j = v
        · right
          subst hjv
          have : ¬ j < σ.length := fun h => hj ⟨rfl, h⟩
          rw [getN_ge (Nat.le_of_not_lt this), getN_ge (by rw [← hl]; exact Nat.le_of_not_lt this)]
        · rcases h2 with h2 | h2
          · left; simp [hjv, h2]
          · rw [hset, if_neg hj] at h2
            exact .inr h2
theorem head_rel {Γ : Gam} {σ0 σ : Slots} {ts : Array Value} {vs ms : List Nat} (hs : SRel Γ σ ts) (hl : σ.length = σ0.length) (hk : ∀ i, i ∉ vs → i ∉ ms → getN σ i = getN σ0 i) : SRel Γ (place (pickL σ vs) vs 0 (mask ms σ0)) ts := by
  refine ⟨by rw [length_place, length_mask, ← hl]; exact hs.len, fun i _ => ?_⟩
  rcases place_same σ [] vs (mask ms σ0) i (by rw [length_mask]; exact hl.symm) with ⟨h1, -⟩ | ⟨h1, h2⟩
  · simp only [List.nil_append, List.length_nil] at h1
    rw [h1]; exact hs.get i
  · simp only [List.nil_append, List.length_nil] at h1
    rw [h1]
    rcases h2 with h2 | h2
    · rw [getN_mask]
      split
      · exact fun e => absurd rfl e
      · rename_i h3
        rw [← hk i h2 h3]; exact hs.get i
    · rw [h2]; exact hs.get i
theorem head_keeps {σ0 : Slots} (xs : List Val) (vs ms : List Nat) : Keeps (vs ++ ms) σ0 (place xs vs 0 (mask ms σ0)) := by
  refine ⟨by rw [length_place, length_mask], fun i hi => ?_⟩
  have : ∀ (vs : List Nat) (k : Nat) (σ : Slots), i ∉ vs → getN (place xs vs k σ) i = getN σ i := by
    intro vs
    induction vs with
    | nil => intro k σ _; rfl
    | cons v vs ih =>
      intro k σ h
      simp at h
      rw [place, ih _ _ h.2, getN_setN, if_neg (fun e => h.1 e.1)]
  rw [this vs 0 _ (fun e => hi (List.mem_append_left _ e)), getN_mask, if_neg (fun e => hi (List.mem_append_right _ e))]
def okCode (P : Program) (dr : List DOp → Array GOper → Bool) : Code → GCode → Bool
  | .skip, .skip => true
  | .skip, .label _ => true
  | .region l, .region _ ops false => okOps P ops l ops.toList
  | .draw l, .region _ ops true => dr l ops
  | .seq a b, .seq a' b' => okCode P dr a a' && okCode P dr b b'
  | .cond c a b, .cond c' a' b' => okX c c' && okCode P dr a a' && okCode P dr b b'
  | .block i a, .block j a' => i.beq j && okCode P dr a a'
  | .scope a, .scope a' => okCode P dr a a'
  | .loop vs ms a, .loop a' => (codeW a).all (fun i => vs.elem i || ms.elem i) && okCode P dr a a'
  | .exit i, .exit j => i.beq j
  | .ret, .ret => true
  | .no, _ => true
  | _, _ => false
def DrawOk (P : Program) (N : Nat) (call : Call) (dr : List DOp → Array GOper → Bool) : Prop :=
  ∀ (l : List DOp) (id : Nat) (gops : Array GOper), dr l gops = true → ∀ (Q : _root_.Go.Exit → Act → World → Prop) (r : Val × Heap) (Γ : Gam) (h : Heap) (w : World) (σ : Slots) (a : Act) (K : Slots → Heap → R), dops call l σ h K = some r →
    SRel Γ σ a.tmps → HRel Γ h w N → N ≤ w.heap.size → SCont Γ w N (dopsW l) σ K r a (Q .normal) → (_root_.Go.Code.region id gops true).wp P Q a w
theorem exec_sound {call : Call} (hcall : CallOk P N call) {dr : List DOp → Array GOper → Bool} (hdr : DrawOk P N call dr) (fuel : Nat) : ∀ (s : Code) (c : GCode), okCode P dr s c = true →
    ∀ (Q : _root_.Go.Exit → Act → World → Prop) (Γ : Gam) (h : Heap) (w : World) (σ : Slots) (a : Act) (K : Exit → Slots → Heap → R), exec call fuel s K σ h = some r → SRel Γ σ a.tmps → HRel Γ h w N → N ≤ w.heap.size →
    ECont Γ w N (codeW s) σ K r a Q → c.wp P Q a w := by
  intro s
  induction s with
  | skip =>
    intro c hok Q Γ h w σ a K hk hs hh hN hc
    have := hc .normal σ h Γ a w hk (.refl Γ) (.refl Γ w) hh hs rfl (.refl _ _)
    cases c <;> simp [okCode] at hok
    · exact wp_skip this
    · exact wp_label this
  | draw l =>
    intro c hok Q Γ h w σ a K hk hs hh hN hc
    cases c with
    | region id ops d =>
     cases d with
     | false => exact absurd hok (by simp [okCode])
     | true =>
      exact hdr l id ops (by simpa [okCode] using hok) Q r Γ h w σ a (fun σ h => K .normal σ h) hk hs hh hN (fun σ' h' Δ a' w' hk' hle hfr hh' hs' hd hkp => hc .normal σ' h' Δ a' w' hk' hle hfr hh' hs' hd hkp)
    | _ => exact absurd hok (by simp [okCode])
  | region l =>
    intro c hok Q Γ h w σ a K hk hs hh hN hc
    cases c with
    | region id ops d =>
     cases d with
     | true => exact absurd hok (by simp [okCode])
     | false =>
      exact region_sound hcall (by simpa [okCode] using hok) (K := fun σ h => K .normal σ h) hk hs hh hN (fun σ' h' Δ a' w' hk' hle hfr hh' hs' hd hkp => hc .normal σ' h' Δ a' w' hk' hle hfr hh' hs' hd hkp)
    | _ => exact absurd hok (by simp [okCode])
  | seq s1 s2 ih1 ih2 =>
    intro c hok Q Γ h w σ a K hk hs hh hN hc
    cases c <;> simp only [okCode] at hok <;> try (cases hok; done)
    rename_i c1 c2
    simp only [Bool.and_eq_true] at hok
    refine wp_seq (ih1 c1 hok.1 _ Γ h w σ a _ hk hs hh hN ?_)
    intro e σ' h' Δ a' w' hk' hle hfr hh' hs' hd hkp
    cases e with
    | normal =>
      refine ih2 c2 hok.2 Q Δ h' w' σ' a' K hk' hs' hh' (Nat.le_trans hN hfr.size) ?_
      intro e2 σ2 h2 Δ2 a2 w2 hk2 hle2 hfr2 hh2 hs2 hd2 hkp2
      exact hc e2 σ2 h2 Δ2 a2 w2 hk2 (hle.trans hle2) (hfr.trans hfr2) hh2 hs2 (hd2.trans hd) (hkp.trans hkp2)
    | exit id => exact hc (.exit id) σ' h' Δ a' w' hk' hle hfr hh' hs' hd (hkp.mono fun i hi => List.mem_append_left _ hi)
    | ret => exact hc .ret σ' h' Δ a' w' hk' hle hfr hh' hs' hd (hkp.mono fun i hi => List.mem_append_left _ hi)
  | cond x s1 s2 ih1 ih2 =>
    intro c hok Q Γ h w σ a K hk hs hh hN hc
    cases c <;> simp only [okCode] at hok <;> try (cases hok; done)
    rename_i x' c1 c2
    simp only [Bool.and_eq_true] at hok
    simp only [exec, cnd] at hk
    split at hk
    · rename_i hx
      exact wp_cond_true (ob (okX_sound hs hok.1.1) hx) (ih1 c1 hok.1.2 Q Γ h w σ a K hk hs hh hN (fun e σ' h' Δ a' w' hk' hle hfr hh' hs' hd hkp => hc e σ' h' Δ a' w' hk' hle hfr hh' hs' hd (hkp.mono fun i hi => List.mem_append_left _ hi)))
    · rename_i hx
      exact wp_cond_false (ob (okX_sound hs hok.1.1) hx) (ih2 c2 hok.2 Q Γ h w σ a K hk hs hh hN (fun e σ' h' Δ a' w' hk' hle hfr hh' hs' hd hkp => hc e σ' h' Δ a' w' hk' hle hfr hh' hs' hd (hkp.mono fun i hi => List.mem_append_right _ hi)))
    · cases hk
  | block id s1 ih =>
    intro c hok Q Γ h w σ a K hk hs hh hN hc
    cases c <;> simp only [okCode] at hok <;> try (cases hok; done)
    rename_i id' c1
    simp only [Bool.and_eq_true] at hok
    have := Nat.eq_of_beq_eq_true hok.1
    subst this
    refine wp_block (ih c1 hok.2 _ Γ h w σ a _ hk hs hh hN ?_)
    intro e σ' h' Δ a' w' hk' hle hfr hh' hs' hd hkp
    cases e with
    | normal => exact hc .normal σ' h' Δ a' w' hk' hle hfr hh' hs' hd hkp
    | ret => exact hc .ret σ' h' Δ a' w' hk' hle hfr hh' hs' hd hkp
    | exit j =>
      simp only at hk'
      show (if j = id then Q .normal a' w' else Q (.exit j) a' w')
      cases hj : j.beq id with
      | true =>
        rw [hj, cond_true] at hk'
        rw [if_pos (Nat.eq_of_beq_eq_true hj)]
        exact hc .normal σ' h' Δ a' w' hk' hle hfr hh' hs' hd hkp
      | false =>
        rw [hj, cond_false] at hk'
        rw [if_neg (fun e => by rw [bt e] at hj; cases hj)]
        exact hc (.exit j) σ' h' Δ a' w' hk' hle hfr hh' hs' hd hkp
  | scope s1 ih =>
    intro c hok Q Γ h w σ a K hk hs hh hN hc
    cases c <;> simp only [okCode] at hok <;> try (cases hok; done)
    rename_i c1
    refine wp_scope_straight (ih c1 hok _ Γ h w σ a K hk hs hh hN ?_)
    intro e σ' h' Δ a' w' hk' hle hfr hh' hs' hd hkp
    have := hc e σ' h' Δ a' w' hk' hle hfr hh' hs' hd hkp
    cases e <;> exact this
  | loop vs ms s1 ih =>
    intro c hok Q Γ h w σ a K hk hs hh hN hc
    cases c <;> simp only [okCode] at hok <;> try (cases hok; done)
    rename_i c1
    simp only [Bool.and_eq_true, List.all_eq_true, Bool.or_eq_true, List.elem_eq_mem, decide_eq_true_eq] at hok
    obtain ⟨hW, hok1⟩ := hok
    simp only [exec] at hk
    let F : (List Val → Heap → R) → List Val → Heap → R := fun rec xs h => exec call fuel s1 (fun e σ h => match e with
      | .normal => rec (pickL σ vs) h
      | e => K e σ h) (place xs vs 0 (mask ms σ)) h
    let S : Nat → Act → World → Prop := fun n a' w' => ∃ σ' h' Δ, Γ.Le Δ ∧ Frame Γ Δ w w' ∧ HRel Δ h' w' N ∧ SRel Δ σ' a'.tmps ∧ a'.defers = a.defers ∧ σ'.length = σ.length ∧ (∀ i, i ∉ vs → i ∉ ms → getN σ' i = getN σ i) ∧ iter n F (pickL σ' vs) h' = some r
    refine wp_loop_fuel (S := S) (n := fuel) (fun a' w' hS => ?_) (fun n a' w' hS => ?_) ⟨σ, h, Γ, .refl Γ, .refl Γ w, hh, hs, rfl, rfl, fun _ _ _ => rfl, hk⟩
    · obtain ⟨σ', h', Δ, -, -, -, -, -, -, -, hi⟩ := hS
      cases hi
    · obtain ⟨σ', h', Δ, hle, hfr, hh', hs', hd, hl, hkp, hi⟩ := hS
      have hhead := head_rel (vs := vs) (ms := ms) hs' hl hkp
      refine ih c1 hok1 _ Δ h' w' _ a' _ hi hhead hh' (Nat.le_trans hN hfr.size) ?_
      intro e σ2 h2 Δ2 a2 w2 hk2 hle2 hfr2 hh2 hs2 hd2 hkp2
      have hkeep : Keeps ((vs ++ ms) ++ codeW s1) σ σ2 := (head_keeps (pickL σ' vs) vs ms).trans hkp2
      cases e with
      | normal =>
        refine ⟨σ2, h2, Δ2, hle.trans hle2, hfr.trans hfr2, hh2, hs2, hd2.trans hd, hkeep.len, fun i hi1 hi2 => hkeep.same i fun hm => ?_, hk2⟩
        rcases List.mem_append.1 hm with hm | hm
        · rcases List.mem_append.1 hm with hm | hm
          · exact hi1 hm
          · exact hi2 hm
        · rcases hW i hm with h | h
          · exact hi1 h
          · exact hi2 h
      | exit id => exact hc (.exit id) σ2 h2 Δ2 a2 w2 hk2 (hle.trans hle2) (hfr.trans hfr2) hh2 hs2 (hd2.trans hd) hkeep
      | ret => exact hc .ret σ2 h2 Δ2 a2 w2 hk2 (hle.trans hle2) (hfr.trans hfr2) hh2 hs2 (hd2.trans hd) hkeep
  | exit id =>
    intro c hok Q Γ h w σ a K hk hs hh hN hc
    cases c <;> simp only [okCode] at hok <;> try (cases hok; done)
    have := Nat.eq_of_beq_eq_true hok
    subst this
    exact wp_exit (hc (.exit id) σ h Γ a w hk (.refl Γ) (.refl Γ w) hh hs rfl (.refl _ _))
  | ret =>
    intro c hok Q Γ h w σ a K hk hs hh hN hc
    cases c <;> simp only [okCode] at hok <;> try (cases hok; done)
    exact wp_ret (hc .ret σ h Γ a w hk (.refl Γ) (.refl Γ w) hh hs rfl (.refl _ _))
  | no =>
    intro c hok Q Γ h w σ a K hk hs hh hN hc
    cases hk
end Go.AM
