import Derived.Test.YtfpkdeokpomocaaAMDr4
set_option linter.constructorNameAsVariable false
set_option linter.unusedVariables false
set_option linter.unusedSimpArgs false
set_option linter.unusedVariables false
set_option linter.unusedSimpArgs false
namespace Go.AM
open Go
variable {P : Program} {N : Nat} {Q : _root_.Go.Exit → Act → World → Prop} {r : Val × Heap}
variable {call : Call} {gops : Array GOper} {G : List Grp} {bf : Nat → Nat → Bool} {S : Nat → Slots} {H : Nat → Heap} {V : Nat → Val}
variable {Γ0 : Gam} {a0 : Act} {w0 : World}
def unl (L : Array Bool) : Nat → Nat
  | 0 => 0
  | n + 1 => unl L n + (if L.getD n false then 0 else 1)
theorem unl_set {L : Array Bool} {i : Nat} (hi : i < L.size) (h0 : L.getD i false = false) : ∀ n, unl (L.setIfInBounds i true) n + (if i < n then 1 else 0) = unl L n
  | 0 => by simp [unl]
  | n + 1 => by
    have ih := unl_set hi h0 n
    simp only [unl]
    by_cases e : i = n
    · subst e
      have h1 : (L.setIfInBounds i true).getD i false = true := by simp [hi]
      rw [h1, h0]
      simp at ih ⊢
      omega
    · have h1 : (L.setIfInBounds i true).getD n false = L.getD n false := by
        simp only [Array.getD_eq_getD_getElem?]
        rw [Array.getElem?_setIfInBounds_ne e]
      rw [h1]
      by_cases e2 : i < n
      · rw [if_pos e2] at ih
        rw [if_pos (show i < n + 1 by omega)]
        omega
      · rw [if_neg e2] at ih
        rw [if_neg (show ¬ i < n + 1 by omega)]
        omega
theorem unl_zero {L : Array Bool} : ∀ {n : Nat}, unl L n = 0 → ∀ i, i < n → L.getD i false = true
  | 0, _, i, hi => absurd hi (Nat.not_lt_zero i)
  | n + 1, h, i, hi => by
    simp only [unl] at h
    by_cases e : i = n
    · subst e
      cases h2 : L.getD i false with
      | true => rfl
      | false => rw [h2] at h; simp at h
    · exact unl_zero (L := L) (n := n) (by omega) i (by omega)
theorem all_listed (hst : Stat P gops G bf) {L : Array Bool} (hL : L.size = gops.size) (hr : Region.ready .any gops L = []) : ∀ (n p : Nat) (g : Grp), p < n → G[p]? = some g → lis L g.i
  | 0, p, _, hp, _ => absurd hp (Nat.not_lt_zero p)
  | n + 1, p, g, hp, hg => by
    apply Classical.byContradiction
    intro hn
    obtain ⟨o, ho, -⟩ := hst.ok p g hg
    have hin : g.i < gops.size := (Array.getElem?_eq_some_iff.1 ho).1
    have : g.i ∈ Region.ready .any gops L := by
      refine mem_ready.2 ⟨?_, o, ho, fun e he hb => ?_⟩
      · unfold lis at hn
        simp only [Array.getD_eq_getD_getElem?, Array.getElem?_eq_getElem (show g.i < L.size by omega), Option.getD_some] at hn ⊢
        simpa using hn
      · obtain ⟨q, k, hq, hk, hke⟩ := hst.top p g o hg ho e he hb
        rw [← hke]
        exact all_listed hst hL hr n q k (by omega) hk
    rw [hr] at this
    cases this
theorem St.done (hst : Stat P gops G bf) (ht : Trc call G S H V) {q : Nat} {L : Array Bool} (hL : L.size = gops.size) {Γ : Gam} {a : Act} {w : World} {pd : Nat → Nat} (s : St call G bf S H V N Γ0 a0 w0 q L Γ a w pd)
    (hr : Region.ready .any gops L = []) : ∃ Δ, Γ0.Le Δ ∧ Frame Γ0 Δ w0 w ∧ HRel Δ (H G.length) w N ∧ SRel Δ (S G.length) a.tmps ∧ a.defers = a0.defers := by
  have hall : ∀ (p : Nat) (g : Grp), G[p]? = some g → lis L g.i := fun p g hg => all_listed hst hL hr (p + 1) p g (by omega) hg
  have := s.hq
  obtain ⟨Δ, s2⟩ := St.advTo hst ht (G.length - q) q Γ s (by omega) (fun m k _ _ hk _ => hall m k hk)
  rw [show q + (G.length - q) = G.length by omega] at s2
  have hlen := S_len ht G.length (Nat.le_refl _)
  refine ⟨Δ, s2.le, s2.fr, s2.hr, ⟨hlen.trans s2.sz, fun t htl => ?_⟩, s2.df⟩
  rw [hlen] at htl
  by_cases ex : ∃ (k : Nat) (f : Grp), G[k]? = some f ∧ f.o.d = some t
  · obtain ⟨k, f, hf, hd⟩ := ex
    have hk : k < G.length := (List.getElem?_eq_some_iff.1 hf).1
    rw [S_new hst ht hk (Nat.le_refl _) hf hd htl]
    exact s2.w1 k f t hf hd htl hk (hall k f hf)
  · rw [S_old ht (q := 0) (by omega) (Nat.le_refl _) (fun m f' h1 h2 hf' hd' => ex ⟨m, f', hf', hd'⟩)]
    exact s2.w3 t fun m f' hf' hd' => ex ⟨m, f', hf', hd'⟩
theorem any_sound (hcall : CallOk P N call) (hst : Stat P gops G bf) (ht : Trc call G S H V)
    (hfin : ∀ (Δ : Gam) (a : Act) (w : World), Γ0.Le Δ → Frame Γ0 Δ w0 w → HRel Δ (H G.length) w N → SRel Δ (S G.length) a.tmps → a.defers = a0.defers → Q .normal a w) :
    ∀ (fuel : Nat) (L : Array Bool) (q : Nat) (Γ : Gam) (a : Act) (w : World) (pd : Nat → Nat), L.size = gops.size → unl L gops.size ≤ fuel → St call G bf S H V N Γ0 a0 w0 q L Γ a w pd →
    wpAny P .any gops Q fuel L a w := by
  intro fuel
  have fin : ∀ (L : Array Bool) (q : Nat) (Γ : Gam) (a : Act) (w : World) (pd : Nat → Nat), L.size = gops.size → St call G bf S H V N Γ0 a0 w0 q L Γ a w pd → Region.ready .any gops L = [] → Q .normal a w := by
    intro L q Γ a w pd hL s hr
    obtain ⟨Δ, h1, h2, h3, h4, h5⟩ := s.done hst ht hL hr
    exact hfin Δ a w h1 h2 h3 h4 h5
  induction fuel with
  | zero =>
    intro L q Γ a w pd hL hu s
    have hr : Region.ready .any gops L = [] := by
      cases hr : Region.ready .any gops L with
      | nil => rfl
      | cons i is =>
        have hi : i ∈ Region.ready .any gops L := by rw [hr]; exact List.mem_cons_self
        obtain ⟨h0, o, ho, -⟩ := mem_ready.1 hi
        have hin : i < gops.size := (Array.getElem?_eq_some_iff.1 ho).1
        have := unl_zero (Nat.le_zero.1 hu) i hin
        simp only [Array.getD_eq_getD_getElem?, Array.getElem?_eq_getElem (show i < L.size by omega), Option.getD_some] at h0 this
        rw [h0] at this; cases this
    exact ⟨hr, fin L q Γ a w pd hL s hr⟩
  | succ fuel ih =>
    intro L q Γ a w pd hL hu s
    refine ⟨fin L q Γ a w pd hL s, fun i hi => ?_⟩
    obtain ⟨h0, o, ho, -⟩ := mem_ready.1 hi
    have hin : i < gops.size := (Array.getElem?_eq_some_iff.1 ho).1
    have h0' : L.getD i false = false := by
      simp only [Array.getD_eq_getD_getElem?, Array.getElem?_eq_getElem (show i < L.size by omega), Option.getD_some] at h0 ⊢
      exact h0
    refine wpOp_mono (fun a' w' hs => ?_) (s.step (Q := Q) hcall hst ht hL hi)
    obtain ⟨q', Δ, pd', s'⟩ := hs
    refine ih _ q' Δ a' w' pd' (by simpa using hL) ?_ s'
    have := unl_set (by omega) h0' gops.size
    rw [if_pos hin] at this
    omega
def tb (m i : Nat) : Bool := (m / 2 ^ i % 2).beq 1
theorem tb_eq (m i : Nat) : tb m i = m.testBit i := by
  rw [Nat.testBit_eq_decide_div_mod_eq]
  unfold tb
  by_cases h : m / 2 ^ i % 2 = 1
  · rw [bt h]; simp [h]
  · rw [bf h]; simp [h]
def edgeM (ms : List Nat) : List Edge → Nat
  | [] => 0
  | e :: l => bif Region.binds .any e then (2 ^ e.on ||| ms.getD e.on 0) ||| edgeM ms l else edgeM ms l
def masks : List GOper → List Nat → List Nat
  | [], ms => ms
  | o :: l, ms => masks l (ms ++ [edgeM ms o.after.toList])
theorem edgeM_tb {ms : List Nat} {i : Nat} : ∀ {l : List Edge}, tb (edgeM ms l) i = true → ∃ e ∈ l, Region.binds .any e = true ∧ (e.on = i ∨ tb (ms.getD e.on 0) i = true)
  | [], h => by simp [edgeM, tb_eq] at h
  | e :: l, h => by
    simp only [edgeM] at h
    cases hb : Region.binds .any e with
    | false =>
      rw [hb, cond_false] at h
      obtain ⟨e', h1, h2⟩ := edgeM_tb h
      exact ⟨e', List.mem_cons_of_mem _ h1, h2⟩
    | true =>
      rw [hb, cond_true, tb_eq, Nat.testBit_or, Nat.testBit_or, Bool.or_eq_true, Bool.or_eq_true, Nat.testBit_two_pow] at h
      rcases h with (h | h) | h
      · exact ⟨e, List.mem_cons_self, hb, .inl (by simpa using h)⟩
      · exact ⟨e, List.mem_cons_self, hb, .inr (by rw [tb_eq]; exact h)⟩
      · rw [← tb_eq] at h
        obtain ⟨e', h1, h2⟩ := edgeM_tb h
        exact ⟨e', List.mem_cons_of_mem _ h1, h2⟩
def okMasks (ms : List Nat) : List GOper → List Nat → Bool
  | [], [] => true
  | o :: l, m :: t => (m &&& edgeM ms o.after.toList).beq m && okMasks ms l t
  | _, _ => false
theorem okMasks_sound {ms : List Nat} {i : Nat} : ∀ {l : List GOper} {t : List Nat}, okMasks ms l t = true → ∀ j, tb (t.getD j 0) i = true → ∃ o, l[j]? = some o ∧ ∃ e ∈ o.after.toList, Region.binds .any e = true ∧ (e.on = i ∨ tb (ms.getD e.on 0) i = true)
  | [], [], _, j, h => by simp [tb_eq] at h
  | o :: l, m :: t, hok, j, h => by
    simp only [okMasks, Bool.and_eq_true] at hok
    cases j with
    | zero =>
      simp only [List.getD_cons_zero] at h
      have hm := Nat.eq_of_beq_eq_true hok.1
      refine ⟨o, rfl, edgeM_tb ?_⟩
      rw [tb_eq] at h ⊢
      rw [← hm, Nat.testBit_and, Bool.and_eq_true] at h
      exact h.2
    | succ j =>
      simp only [List.getD_cons_succ] at h
      obtain ⟨o', h1, h2⟩ := okMasks_sound hok.2 j h
      exact ⟨o', by simpa using h1, h2⟩
  | [], _ :: _, h, _, _ => by simp [okMasks] at h
  | _ :: _, [], h, _, _ => by simp [okMasks] at h
def eqX : X → X → Bool
  | .t a, .t b => a.beq b
  | .c a, .c b => eqv a b
  | _, _ => false
theorem eqX_eq {a b : X} (h : eqX a b = true) : a = b := by
  cases a <;> cases b <;> simp only [eqX] at h <;> first | (cases h; done) | rw [Nat.eq_of_beq_eq_true h] | rw [eqv_eq _ _ h]
def eqR : Oper → Oper → Bool
  | ⟨some d, .ld g n p, none⟩, ⟨some d', .ld g' n' p', none⟩ => d.beq d' && (g == g') && n.beq n' && eqX p p'
  | ⟨some d, .cvs p, none⟩, ⟨some d', .cvs p', none⟩ => d.beq d' && eqX p p'
  | ⟨some d, .ld g n p, some (i, b)⟩, ⟨some d', .ld g' n' p', some (i', b')⟩ => d.beq d' && (g == g') && n.beq n' && eqX p p' && i.beq i' && (b == b')
  | ⟨some d, .cvs p, some (i, b)⟩, ⟨some d', .cvs p', some (i', b')⟩ => d.beq d' && eqX p p' && i.beq i' && (b == b')
  | _, _ => false
theorem eqR_eq {a b : Oper} (h : eqR a b = true) : a = b ∧ ∃ t, a.d = some t := by
  unfold eqR at h
  split at h
  all_goals first
    | (cases h; done)
    | (simp only [Bool.and_eq_true, beq_iff_eq] at h
       first
         | (obtain ⟨⟨⟨h1, rfl⟩, h3⟩, h4⟩ := h
            rw [Nat.eq_of_beq_eq_true h1, Nat.eq_of_beq_eq_true h3, eqX_eq h4]; exact ⟨rfl, _, rfl⟩)
         | (obtain ⟨h1, h4⟩ := h
            rw [Nat.eq_of_beq_eq_true h1, eqX_eq h4]; exact ⟨rfl, _, rfl⟩)
         | (obtain ⟨⟨⟨⟨⟨h1, rfl⟩, h3⟩, h4⟩, h5⟩, rfl⟩ := h
            rw [Nat.eq_of_beq_eq_true h1, Nat.eq_of_beq_eq_true h3, eqX_eq h4, Nat.eq_of_beq_eq_true h5]; exact ⟨rfl, _, rfl⟩)
         | (obtain ⟨⟨⟨h1, h4⟩, h5⟩, rfl⟩ := h
            rw [Nat.eq_of_beq_eq_true h1, eqX_eq h4, Nat.eq_of_beq_eq_true h5]; exact ⟨rfl, _, rfl⟩))
def hasN (ns : List Nat) : Option Nat → Bool
  | none => false
  | some d => ns.any fun n => n.beq d
theorem hasN_not {ns : List Nat} {d : Option Nat} (h : hasN ns d = false) {t : Nat} (hd : d = some t) : t ∉ ns := by
  subst hd
  simp only [hasN, List.any_eq_false] at h
  exact fun hm => h t hm (Nat.beq_refl t)
def eqD : Option Nat → Option Nat → Bool
  | some a, some b => a.beq b
  | _, _ => false
def OK.ea : OK → Bool
  | .e | .a => true
  | _ => false
def OK.isE : OK → Bool
  | .e => true
  | _ => false
def OK.isA : OK → Bool
  | .a => true
  | _ => false
def OK.isR : OK → Bool
  | .r => true
  | _ => false
def pairOk (ms : List Nat) (g k : Grp) : Bool :=
  !g.i.beq k.i && !eqD g.o.d k.o.d && (tb (ms.getD k.i 0) g.i || (!hasN k.o.ns g.o.d && !hasN g.o.ns k.o.d && (!g.o.kd.ea || k.o.kd.isA)))
def c4 (ms : List Nat) (g : Grp) : Bool → List Grp → Bool
  | _, [] => true
  | clean, k :: t => (!k.o.kd.isE || tb (ms.getD k.i 0) g.i || (clean && !hasN g.o.ns k.o.d && k.cks.any (eqR g.o))) && c4 ms g (clean && !hasN g.o.ns k.o.d) t
def pairs (ms : List Nat) : List Grp → Bool
  | [] => true
  | g :: t => t.all (pairOk ms g) && (!g.o.kd.isR || c4 ms g (!hasN g.o.ns g.o.d) t) && pairs ms t
def topOk (gops : Array GOper) : List Grp → List Grp → Bool
  | _, [] => true
  | pre, g :: t => (match gops[g.i]? with
    | some o => o.after.toList.all fun e => !Region.binds .any e || pre.any fun k => k.i.beq e.on
    | none => false) && topOk gops (g :: pre) t
def drOkM (P : Program) (ms : List Nat) (G : List Grp) (gops : Array GOper) : Bool :=
  G.length.beq gops.size && (List.range gops.size).all (fun j => G.any fun g => g.i.beq j) &&
  G.all (fun g => match gops[g.i]? with
    | some o => okOper P gops g.o o
    | none => false) && okMasks ms gops.toList ms && topOk gops [] G && pairs ms G
def drOk (P : Program) (l : List DOp) (gops : Array GOper) : Bool := drOkM P (masks gops.toList []) (grps l) gops
theorem pairs_at {ms : List Nat} : ∀ {G : List Grp}, pairs ms G = true → ∀ (p q : Nat) (g k : Grp), p < q → G[p]? = some g → G[q]? = some k → pairOk ms g k = true
  | [], _, p, q, g, k, _, hg, _ => by simp at hg
  | x :: G, h, p, q, g, k, hpq, hg, hk => by
    simp only [pairs, Bool.and_eq_true] at h
    cases q with
    | zero => exact absurd hpq (Nat.not_lt_zero p)
    | succ q =>
      simp only [List.getElem?_cons_succ] at hk
      cases p with
      | zero =>
        simp only [List.getElem?_cons_zero, Option.some.injEq] at hg
        subst hg
        exact List.all_eq_true.1 h.1.1 k (List.mem_of_getElem? hk)
      | succ p =>
        simp only [List.getElem?_cons_succ] at hg
        exact pairs_at h.2 p q g k (by omega) hg hk
theorem c4_at {ms : List Nat} {g : Grp} : ∀ {t : List Grp} {clean : Bool}, c4 ms g clean t = true → ∀ (q : Nat) (k : Grp), t[q]? = some k → k.o.kd.isE = true →
    tb (ms.getD k.i 0) g.i = true ∨ (clean = true ∧ k.cks.any (eqR g.o) = true ∧ ∀ (m : Nat) (f : Grp), m ≤ q → t[m]? = some f → hasN g.o.ns f.o.d = false)
  | [], _, _, q, k, hk, _ => by simp at hk
  | x :: t, clean, h, q, k, hk, hea => by
    simp only [c4, Bool.and_eq_true] at h
    cases q with
    | zero =>
      simp only [List.getElem?_cons_zero, Option.some.injEq] at hk
      subst hk
      have h1 := h.1
      rw [hea] at h1
      simp only [Bool.not_true, Bool.false_or, Bool.or_eq_true, Bool.and_eq_true, Bool.not_eq_true'] at h1
      rcases h1 with h1 | h1
      · exact .inl h1
      · refine .inr ⟨h1.1.1, h1.2, fun m f hm hf => ?_⟩
        rw [Nat.le_zero.1 hm] at hf
        simp only [List.getElem?_cons_zero, Option.some.injEq] at hf
        subst hf
        exact h1.1.2
    | succ q =>
      simp only [List.getElem?_cons_succ] at hk
      rcases c4_at h.2 q k hk hea with h1 | ⟨h1, h2, h3⟩
      · exact .inl h1
      · simp only [Bool.and_eq_true, Bool.not_eq_true'] at h1
        refine .inr ⟨h1.1, h2, fun m f hm hf => ?_⟩
        cases m with
        | zero =>
          simp only [List.getElem?_cons_zero, Option.some.injEq] at hf
          subst hf
          exact h1.2
        | succ m =>
          simp only [List.getElem?_cons_succ] at hf
          exact h3 m f (by omega) hf
theorem pairs_c4 {ms : List Nat} : ∀ {G : List Grp}, pairs ms G = true → ∀ (p q : Nat) (g k : Grp), p < q → G[p]? = some g → G[q]? = some k → g.o.kd.isR = true → k.o.kd.isE = true →
    tb (ms.getD k.i 0) g.i = true ∨ (k.cks.any (eqR g.o) = true ∧ ∀ (m : Nat) (f : Grp), p ≤ m → m ≤ q → G[m]? = some f → hasN g.o.ns f.o.d = false)
  | [], _, p, q, g, k, _, hg, _, _, _ => by simp at hg
  | x :: G, h, p, q, g, k, hpq, hg, hk, hR, hea => by
    simp only [pairs, Bool.and_eq_true] at h
    cases q with
    | zero => exact absurd hpq (Nat.not_lt_zero p)
    | succ q =>
      simp only [List.getElem?_cons_succ] at hk
      cases p with
      | zero =>
        simp only [List.getElem?_cons_zero, Option.some.injEq] at hg
        subst hg
        have h1 := h.1.2
        rw [hR] at h1
        simp only [Bool.not_true, Bool.false_or] at h1
        rcases c4_at h1 q k hk hea with h2 | ⟨h2, h3, h4⟩
        · exact .inl h2
        · refine .inr ⟨h3, fun m f h5 h6 hf => ?_⟩
          cases m with
          | zero =>
            simp only [List.getElem?_cons_zero, Option.some.injEq] at hf
            subst hf
            simpa using h2
          | succ m =>
            simp only [List.getElem?_cons_succ] at hf
            exact h4 m f (by omega) hf
      | succ p =>
        simp only [List.getElem?_cons_succ] at hg
        rcases pairs_c4 h.2 p q g k (by omega) hg hk hR hea with h1 | ⟨h1, h2⟩
        · exact .inl h1
        · refine .inr ⟨h1, fun m f h5 h6 hf => ?_⟩
          cases m with
          | zero => omega
          | succ m =>
            simp only [List.getElem?_cons_succ] at hf
            exact h2 m f (by omega) (by omega) hf
theorem topOk_at {gops : Array GOper} : ∀ {G pre : List Grp}, topOk gops pre G = true → ∀ (p : Nat) (g : Grp) (o : GOper), G[p]? = some g → gops[g.i]? = some o → ∀ e ∈ o.after, Region.binds .any e = true →
    (∃ k ∈ pre, k.i = e.on) ∨ ∃ (q : Nat) (k : Grp), q < p ∧ G[q]? = some k ∧ k.i = e.on
  | [], _, _, p, g, _, hg, _, _, _, _ => by simp at hg
  | x :: G, pre, h, p, g, o, hg, ho, e, he, hb => by
    simp only [topOk, Bool.and_eq_true] at h
    cases p with
    | zero =>
      simp only [List.getElem?_cons_zero, Option.some.injEq] at hg
      subst hg
      have h1 := h.1
      rw [ho] at h1
      have h2 := List.all_eq_true.1 h1 e (Array.mem_toList_iff.2 he)
      simp only [hb, Bool.not_true, Bool.false_or, List.any_eq_true] at h2
      obtain ⟨k, hk, hke⟩ := h2
      exact .inl ⟨k, hk, Nat.eq_of_beq_eq_true hke⟩
    | succ p =>
      simp only [List.getElem?_cons_succ] at hg
      rcases topOk_at h.2 p g o hg ho e he hb with ⟨k, hk, hke⟩ | ⟨q, k, h1, h2, h3⟩
      · rcases List.mem_cons.1 hk with rfl | hk
        · exact .inr ⟨0, k, by omega, rfl, hke⟩
        · exact .inl ⟨k, hk, hke⟩
      · exact .inr ⟨q + 1, k, by omega, by simpa using h2, h3⟩
theorem ea_iff {k : OK} : (k = .e ∨ k = .a) ↔ k.ea = true := by cases k <;> simp [OK.ea]
theorem drOk_stat {ms : List Nat} (h : drOkM P ms G gops = true) : Stat P gops G (fun i j => tb (ms.getD j 0) i) := by
  simp only [drOkM, Bool.and_eq_true] at h
  obtain ⟨⟨⟨⟨⟨h1, h2⟩, h3⟩, h4⟩, h5⟩, h6⟩ := h
  have hpair : ∀ (p q : Nat) (g k : Grp), p < q → G[p]? = some g → G[q]? = some k → g.i ≠ k.i ∧ (∀ t, g.o.d = some t → k.o.d ≠ some t) ∧
      (tb (ms.getD k.i 0) g.i = true ∨ (hasN k.o.ns g.o.d = false ∧ hasN g.o.ns k.o.d = false ∧ (g.o.kd.ea = true → k.o.kd.isA = true))) := fun p q g k hpq hg hk => by
    have := pairs_at h6 p q g k hpq hg hk
    simp only [pairOk, Bool.and_eq_true, Bool.or_eq_true, Bool.not_eq_true'] at this
    obtain ⟨⟨k1, k2⟩, k3⟩ := this
    refine ⟨fun e => (by rw [bt e] at k1; cases k1), fun t ht1 ht2 => (by rw [ht1, ht2] at k2; simp [eqD] at k2), k3.imp id fun h => ⟨h.1.1, h.1.2, fun he => ?_⟩⟩
    rcases h.2 with h | h
    · rw [he] at h; cases h
    · exact h
  refine ⟨Nat.eq_of_beq_eq_true h1, fun j hj => ?_, fun p q g k hg hk he => ?_, fun p g hg => ?_, fun i j hij => ?_, fun p g o hg ho e he hb => ?_, fun p q g k t hpq hg hk hd hm => ?_, fun p q g k t hpq hg hk hd hm => ?_, fun p q g k t hpq hg hk hd => (hpair p q g k hpq hg hk).2.1 t hd, fun p q g k hpq hg hk h7 h8 => ?_, fun p q g k hpq hg hk h7 h8 => ?_⟩
  · have := List.all_eq_true.1 h2 j (List.mem_range.2 hj)
    obtain ⟨g, hg, hgi⟩ := List.any_eq_true.1 this
    obtain ⟨p, hp⟩ := List.getElem?_of_mem hg
    exact ⟨p, g, hp, Nat.eq_of_beq_eq_true hgi⟩
  · rcases Nat.lt_trichotomy p q with h | h | h
    · exact absurd he (hpair p q g k h hg hk).1
    · exact h
    · exact absurd he.symm (hpair q p k g h hk hg).1
  · have := List.all_eq_true.1 h3 g (List.mem_of_getElem? hg)
    split at this
    · rename_i o ho; exact ⟨o, ho, this⟩
    · cases this
  · obtain ⟨o, ho, e, he, hb⟩ := okMasks_sound h4 j hij
    exact ⟨o, by simpa using ho, e, Array.mem_toList_iff.1 he, hb⟩
  · rcases topOk_at h5 p g o hg ho e he hb with ⟨k, hk, -⟩ | h
    · cases hk
    · exact h
  · rcases (hpair p q g k hpq hg hk).2.2 with h | h
    · exact h
    · exact absurd hm (hasN_not h.1 hd)
  · rcases (hpair p q g k hpq hg hk).2.2 with h | h
    · exact h
    · exact absurd hm (hasN_not h.2.1 hd)
  · rcases (hpair p q g k hpq hg hk).2.2 with h | h
    · exact h
    · have := h.2.2 (ea_iff.1 h7)
      exfalso
      apply h8
      cases hkk : k.o.kd <;> rw [hkk] at this <;> first | rfl | cases this
  · have hR : g.o.kd.isR = true := by rw [h7]; rfl
    rcases pairs_c4 h6 p q g k hpq hg hk hR (by rw [h8]; rfl) with h | ⟨h, hno⟩
    · exact .inl h
    · obtain ⟨c, hc, hce⟩ := List.any_eq_true.1 h
      obtain ⟨e1, e2⟩ := eqR_eq hce
      exact .inr ⟨by rw [e1]; exact hc, e2, fun m f t hm1 hm2 hf hd => hasN_not (hno m f hm1 hm2 hf) hd⟩
theorem grps_W : ∀ (l : List DOp) (k t : Nat) (g : Grp), (grps l)[k]? = some g → g.o.d = some t → t ∈ dopsW l
  | [], k, t, g, hg, _ => by simp [grps] at hg
  | .chk c :: l, k, t, g, hg, hd => by
    simp only [grps] at hg
    exact grps_W l k t g hg hd
  | .real i o :: l, k, t, g, hg, hd => by
    simp only [grps] at hg
    cases k with
    | zero =>
      simp only [List.getElem?_cons_zero, Option.some.injEq] at hg
      subst hg
      simp only at hd
      simp [dopsW, hd]
    | succ k =>
      simp only [List.getElem?_cons_succ] at hg
      exact List.mem_append_right _ (grps_W l k t g hg hd)
theorem draw_ok (hm : P.follows .mixedOrders = true) (hcall : CallOk P N call) : DrawOk P N call (drOk P) := by
  intro l id gops hok Q r Γ h w σ a K hk hs hh hN hc
  have hst := drOk_stat (P := P) (G := grps l) (gops := gops) hok
  obtain ⟨-, S, H, V, ht, hS, hH, hK⟩ := dops_trace l σ h K r hk
  refine wp_region_any hm ?_
  let w1 : World := { w with drawn := w.drawn + 1 }
  have hw1 : HRel Γ h w1 N := ⟨hh.lt, hh.bllt, hh.rolt, hh.prok, hh.tklt, hh.cells, hh.toks, hh.maps⟩
  have hf1 : Frame Γ Γ w w1 := ⟨rfl, rfl, rfl, Nat.le_refl _, fun _ _ _ => rfl, fun _ _ h => h, fun _ _ _ _ => rfl⟩
  have nol : ∀ i, ¬ lis (Array.replicate gops.size false) i := fun i hi => by
    unfold lis at hi
    simp only [Array.getD_eq_getD_getElem?, Array.getElem?_replicate] at hi
    split at hi <;> simp at hi
  refine any_sound hcall hst ht (Γ0 := Γ) (a0 := a) (w0 := w1) ?_ gops.size _ 0 Γ a w1 (fun _ => 0) (by simp) ?_ ?_
  · intro Δ a' w' hle hfr hh' hs' hd
    refine hc (S (grps l).length) (H (grps l).length) Δ a' w' hK hle (hf1.trans hfr) hh' hs' hd ⟨?_, fun i hi => ?_⟩
    · rw [S_len ht _ (Nat.le_refl _), hS]
    · rw [S_old ht (q := 0) (by omega) (Nat.le_refl _) (fun m f' h1 h2 hf' hd' => hi (grps_W l m i f' hf' hd')), hS]
  · have : ∀ n L, unl L n ≤ n := by
      intro n L
      induction n with
      | zero => simp [unl]
      | succ n ih => simp only [unl]; split <;> omega
    exact this _ _
  · exact ⟨by omega, .refl Γ, .refl Γ w1, by rw [hH]; exact hw1, hN, rfl, by rw [hS]; exact hs.len, fun p g hp => absurd hp (Nat.not_lt_zero p), fun p g _ _ hl => absurd hl (nol _),
      fun p k g f _ _ _ _ hl => absurd hl (nol _), fun i j hj => absurd hj (nol _), fun p g hp => absurd hp (Nat.not_lt_zero p), fun p g t _ _ _ hp => absurd hp (Nat.not_lt_zero p),
      fun p g t _ _ _ => by rw [hS]; exact hs.get t, fun t _ => by rw [hS]; exact hs.get t⟩
end Go.AM
