import Derived.Test.YtfpkdeokpomocaaAMDr3
set_option linter.constructorNameAsVariable false
set_option linter.unusedVariables false
set_option linter.unusedSimpArgs false
set_option linter.unusedVariables false
set_option linter.unusedSimpArgs false
namespace Go.AM
open Go
variable {P : Program} {N : Nat} {Q : _root_.Go.Exit → Act → World → Prop} {r : Val × Heap}
variable {call : Call} {gops : Array GOper} {G : List Grp} {bf : Nat → Nat → Bool} {S : Nat → Slots} {H : Nat → Heap} {V : Nat → Val}
variable {Γ0 : Gam} {a0 : Act} {w0 : World}
theorem put_get (a : Act) (d : Option Nat) (x : Value) (t : Nat) : (a.put d x).tmps.getD t undef = if d = some t ∧ t < a.tmps.size then x else a.tmps.getD t undef := by
  cases d with
  | none => simp [Act.put]
  | some d =>
    simp only [Act.put, Array.getD_eq_getD_getElem?]
    by_cases e : d = t
    · subst e
      by_cases h : d < a.tmps.size
      · simp [h]
      · simp [h]
    · rw [Array.getElem?_setIfInBounds_ne e]
      simp [e]
theorem put_ne (a : Act) {d : Option Nat} (x : Value) {t : Nat} (h : d ≠ some t) : (a.put d x).tmps.getD t undef = a.tmps.getD t undef := by
  rw [put_get, if_neg (fun e => h e.1)]
theorem put_size (a : Act) (d : Option Nat) (x : Value) : (a.put d x).tmps.size = a.tmps.size := by cases d <;> simp [Act.put]
theorem lis_set {L : Array Bool} {i j : Nat} (hi : i < L.size) : lis (L.setIfInBounds i true) j ↔ (lis L j ∨ j = i) := by
  unfold lis
  simp only [Array.getD_eq_getD_getElem?]
  by_cases e : i = j
  · subst e; simp [hi]
  · rw [Array.getElem?_setIfInBounds_ne e]
    constructor
    · exact .inl
    · rintro (h | h)
      · exact h
      · exact absurd h.symm e
theorem Stat.c2c' (hst : Stat P gops G bf) {p q : Nat} {g k : Grp} {t : Nat} (hg : G[p]? = some g) (hk : G[q]? = some k) (hne : p ≠ q) (hd : g.o.d = some t) : k.o.d ≠ some t := by
  rcases Nat.lt_or_gt_of_ne hne with h | h
  · exact hst.c2c p q g k t h hg hk hd
  · exact fun h2 => hst.c2c q p k g t h hk hg h2 hd
theorem St.put (hst : Stat P gops G bf) (ht : Trc call G S H V) {q q2 : Nat} {L : Array Bool} {Γ Δ : Gam} {a : Act} {w w' : World} {pd : Nat → Nat} (s : St call G bf S H V N Γ0 a0 w0 q L Γ a w pd)
    {p : Nat} {g : Grp} (hg : G[p]? = some g) (hgi : g.i < L.size) (hnl : ¬ lis L g.i) (hbf : ∀ j, bf j g.i = true → lis L j) (hkd : g.o.kd ≠ .a) {v : Val} {x : Value}
    (hq2 : (p < q ∧ q2 = q ∧ ∀ t, g.o.d = some t → t < (S 0).length → v = V p) ∨ (q = p ∧ q2 = p + 1 ∧ v = V p))
    (hle : Γ.Le Δ) (hfr : Frame Γ Δ w w') (hh : HRel Δ (H q2) w' N) (hv : URel Δ v x) :
    St call G bf S H V N Γ0 a0 w0 q2 (L.setIfInBounds g.i true) Δ (a.put g.o.d x) w' pd := by
  have hpn : p < G.length := (List.getElem?_eq_some_iff.1 hg).1
  have hpq2 : p < q2 := by rcases hq2 with h | h <;> omega
  have hqq2 : q ≤ q2 := by rcases hq2 with h | h <;> omega
  have hlt2 : ∀ p', p' < q2 → p' = p ∨ p' < q := fun p' h => by rcases hq2 with h2 | h2 <;> omega
  have hls : ∀ j, lis (L.setIfInBounds g.i true) j ↔ (lis L j ∨ j = g.i) := fun j => lis_set hgi
  have hclos : ∀ i j, lis (L.setIfInBounds g.i true) j → bf i j = true → lis (L.setIfInBounds g.i true) i := fun i j hj hb => by
    rw [hls] at hj ⊢
    rcases hj with hj | rfl
    · exact .inl (s.clos i j hj hb)
    · exact .inl (hbf i hb)
  have hearly : ∀ (p' : Nat) (g' : Grp), p' < q2 → G[p']? = some g' → (g'.o.kd = .e ∨ g'.o.kd = .a) → lis (L.setIfInBounds g.i true) g'.i := fun p' g' hp' hg' hk' => by
    rw [hls]
    rcases hlt2 p' hp' with rfl | hp'
    · rw [hg] at hg'
      simp at hg'
      subst hg'
      exact .inr rfl
    · exact .inl (s.early p' g' hp' hg' hk')
  have hvp : ∀ t, g.o.d = some t → t < (S 0).length → URel Δ (V p) x := fun t hd hl => by
    rcases hq2 with h | h
    · rw [← h.2.2 t hd hl]; exact hv
    · rw [← h.2.2]; exact hv
  refine ⟨by rcases hq2 with h | h
             · rw [h.2.1]; exact s.hq
             · omega, s.le.trans hle, s.fr.trans hfr, hh, Nat.le_trans s.lo hfr.size, (defers_put a _ _).trans s.df, s.sz.trans (put_size a _ _).symm, hearly, fun p' g' hp' hg' hl' => ?_,
    fun p' k g' f h1 h2 h3 h4 h5 h6 => ?_, hclos, fun p' g' hp' hg' hl' => ?_, fun p' g' t hg' hd ht1 hp' hl' => ?_, fun p' g' t hg' hd hl' => ?_, fun t h3 => ?_⟩
  · rw [hls] at hl'
    have hl1 : lis L g'.i := hl'.resolve_right fun e => by have := hst.inj _ _ _ _ hg' hg e; omega
    obtain ⟨k1, k2⟩ := s.pend p' g' (by omega) hg' hl1
    refine ⟨k1, ⟨k2.lo, k2.base, Nat.lt_of_lt_of_le k2.lt hfr.size, hfr.role _ k2.lt k2.ro, fun i => (hfr.prn _ i k2.lt k2.ro).trans (k2.pr i), ?_, fun t hd hts => ?_⟩⟩
    · obtain ⟨arr, e, h1, h2⟩ := k2.row
      exact ⟨arr, e, by rw [hfr.block _ k2.lt k2.ro]; exact h1, h2⟩
    · rw [put_size] at hts
      rw [put_ne a x (hst.c2c' hg' hg (by omega) hd)]
      exact k2.ptr t hd hts
  · rw [hls] at h5 h6
    have hl1 : lis L g'.i := h5.resolve_right fun e => by have := hst.inj _ _ _ _ h3 hg e; omega
    have hl2 : lis L f.i := h6.resolve_right fun e => by have := hst.inj _ _ _ _ h4 hg e; omega
    exact s.inj p' k g' f (by omega) (by omega) h3 h4 hl1 hl2
  · have hl1 : ¬ lis L g'.i := fun e => hl' ((hls _).2 (.inl e))
    have hne : p' ≠ p := fun e => by
      subst e
      rw [hg] at hg'
      simp at hg'
      subst hg'
      exact hl' ((hls _).2 (.inr rfl))
    have hp1 : p' < q := (hlt2 p' hp').resolve_left hne
    rcases hq2 with h | h
    · rw [h.2.1]; exact s.late p' g' hp1 hg' hl1
    · obtain ⟨rfl, rfl, -⟩ := h
      have hrun := ht.run q g hg
      rcases kd_cases g.o.kd with hk | hk | hk
      · rw [(oper_p hk hrun).1]; exact s.late p' g' hp1 hg' hl1
      · rw [oper_r hk hrun]; exact s.late p' g' hp1 hg' hl1
      · exact late_next hst ht hg (hk.resolve_right hkd) ((hls _).2 (.inr rfl)) hclos (fun p'' g'' h1 => hearly p'' g'' (by omega)) p' g' hp1 hg' hl'
  · by_cases e : p' = p
    · subst e
      rw [hg] at hg'
      simp at hg'
      subst hg'
      rw [put_get, if_pos ⟨hd, by rw [← s.sz]; exact ht1⟩]
      exact hvp t hd ht1
    · rw [hls] at hl'
      have hl1 : lis L g'.i := hl'.resolve_right fun e2 => e (hst.inj _ _ _ _ hg' hg e2)
      rw [put_ne a x (hst.c2c' hg' hg e hd)]
      exact (s.w1 p' g' t hg' hd ht1 ((hlt2 p' hp').resolve_left e) hl1).mono hle
  · have hl1 : ¬ lis L g'.i := fun e => hl' ((hls _).2 (.inl e))
    have hne : p' ≠ p := fun e => by
      subst e
      rw [hg] at hg'
      simp at hg'
      subst hg'
      exact hl' ((hls _).2 (.inr rfl))
    rw [put_ne a x (hst.c2c' hg' hg hne hd)]
    exact (s.w2 p' g' t hg' hd hl1).mono hle
  · rw [put_ne a x (h3 p g hg)]
    exact (s.w3 t h3).mono hle
theorem okOp_alloc {cs : List Val} {g : GOp} (h : okOp P (.alloc cs) g = true) : ∃ t zv, g = .alloc t ∧ tZero P t = some zv ∧ okCs cs zv.cells.toList = true := by
  cases g <;> simp only [okOp] at h <;> (try (cases h; done))
  split at h
  · rename_i t _ zv hz; exact ⟨t, zv, rfl, hz, h⟩
  · cases h
theorem St.alloc (hst : Stat P gops G bf) (ht : Trc call G S H V) {q : Nat} {L : Array Bool} {Γ : Gam} {a : Act} {w : World} {pd : Nat → Nat} (s : St call G bf S H V N Γ0 a0 w0 q L Γ a w pd)
    {p : Nat} {g : Grp} (hg : G[p]? = some g) (hgi : g.i < L.size) (hnl : ¬ lis L g.i) (hbf : ∀ j, bf j g.i = true → lis L j) (hkd : g.o.kd = .a) {cs : List Val} (hop : g.o.op = .alloc cs) {zv : Value} {e : TypeId} (hz : okCs cs zv.cells.toList = true) :
    St call G bf S H V N Γ0 a0 w0 q (L.setIfInBounds g.i true) Γ (a.put g.o.d (.pointer (some ⟨w.heap.size, 0, none⟩))) (w.alloc (.cells zv.cells e)) (fun x => if x = p then w.heap.size else pd x) := by
  have hqp : q ≤ p := by
    rcases Nat.lt_or_ge p q with h | h
    · exact absurd (s.early p g h hg (.inr hkd)) hnl
    · exact h
  have hls : ∀ j, lis (L.setIfInBounds g.i true) j ↔ (lis L j ∨ j = g.i) := fun j => lis_set hgi
  have hfr : Frame Γ Γ w (w.alloc (.cells zv.cells e)) := Frame.alloc Γ w _ (fun _ _ h => h) fun _ _ _ _ => rfl
  have old : ∀ (p' : Nat) (g' : Grp), G[p']? = some g' → p' ≠ p → (lis (L.setIfInBounds g.i true) g'.i ↔ lis L g'.i) := fun p' g' hg' hne => by
    rw [hls]
    constructor
    · rintro (h | h)
      · exact h
      · exact absurd (hst.inj _ _ _ _ hg' hg h) hne
    · exact .inl
  refine ⟨s.hq, s.le, s.fr.trans hfr, s.hr.stray _, Nat.le_trans s.lo hfr.size, (defers_put a _ _).trans s.df, s.sz.trans (put_size a _ _).symm, fun p' g' hp' hg' hk' => ?_, fun p' g' hp' hg' hl' => ?_,
    fun p' k g' f h1 h2 h3 h4 h5 h6 h7 => ?_, fun i j hj hb => ?_, fun p' g' hp' hg' hl' => ?_, fun p' g' t hg' hd ht1 hp' hl' => ?_, fun p' g' t hg' hd hl' => ?_, fun t h3 => ?_⟩
  · exact (old p' g' hg' (by omega)).2 (s.early p' g' hp' hg' hk')
  · by_cases e1 : p' = p
    · subst e1
      rw [hg] at hg'
      simp at hg'
      subst hg'
      refine ⟨hkd, ?_⟩
      simp only [if_pos]
      refine ⟨s.lo, s.fr.size, by simp, s.hr.ronone (Nat.le_refl _), fun i => s.hr.prnone (Nat.le_refl _), ⟨zv.cells, e, heap_alloc_new w _, fun cs' hc' => ?_⟩, fun t hd hts => ?_⟩
      · rw [hop] at hc'
        simp at hc'
        rw [← hc']
        exact hz
      · rw [put_size] at hts
        rw [put_get, if_pos ⟨hd, hts⟩]
    · obtain ⟨k1, k2⟩ := s.pend p' g' hp' hg' ((old p' g' hg' e1).1 hl')
      simp only [if_neg e1]
      refine ⟨k1, ⟨k2.lo, k2.base, Nat.lt_of_lt_of_le k2.lt hfr.size, k2.ro, k2.pr, ?_, fun t hd hts => ?_⟩⟩
      · obtain ⟨arr, e, h1, h2⟩ := k2.row
        exact ⟨arr, e, by rw [hfr.block _ k2.lt k2.ro]; exact h1, h2⟩
      · rw [put_size] at hts
        rw [put_ne a _ (hst.c2c' hg' hg e1 hd)]
        exact k2.ptr t hd hts
  · by_cases e1 : p' = p
    · by_cases e2 : k = p
      · rw [e1, e2]
      · rw [if_pos e1, if_neg e2] at h7
        have := (s.pend k f h2 h4 ((old k f h4 e2).1 h6)).2.lt
        omega
    · by_cases e2 : k = p
      · rw [if_neg e1, if_pos e2] at h7
        have := (s.pend p' g' h1 h3 ((old p' g' h3 e1).1 h5)).2.lt
        omega
      · rw [if_neg e1, if_neg e2] at h7
        exact s.inj p' k g' f h1 h2 h3 h4 ((old p' g' h3 e1).1 h5) ((old k f h4 e2).1 h6) h7
  · rw [hls] at hj ⊢
    rcases hj with hj | rfl
    · exact .inl (s.clos i j hj hb)
    · exact .inl (hbf i hb)
  · exact s.late p' g' hp' hg' fun e1 => hl' ((hls _).2 (.inl e1))
  · have e1 : p' ≠ p := by omega
    rw [put_ne a _ (hst.c2c' hg' hg e1 hd)]
    exact s.w1 p' g' t hg' hd ht1 hp' ((old p' g' hg' e1).1 hl')
  · have hne : p' ≠ p := fun e1 => by
      subst e1
      rw [hg] at hg'
      simp at hg'
      subst hg'
      exact hl' ((hls _).2 (.inr rfl))
    rw [put_ne a _ (hst.c2c' hg' hg hne hd)]
    exact s.w2 p' g' t hg' hd fun e1 => hl' ((hls _).2 (.inl e1))
  · rw [put_ne a _ (h3 p g hg)]
    exact s.w3 t h3
theorem St.advTo (hst : Stat P gops G bf) (ht : Trc call G S H V) {L : Array Bool} {a : Act} {w : World} {pd : Nat → Nat} : ∀ (d q : Nat) (Γ : Gam) (s : St call G bf S H V N Γ0 a0 w0 q L Γ a w pd) (hd : q + d ≤ G.length)
    (hl : ∀ (m : Nat) (k : Grp), q ≤ m → m < q + d → G[m]? = some k → (k.o.kd = .e ∨ k.o.kd = .a) → lis L k.i), ∃ Δ, St call G bf S H V N Γ0 a0 w0 (q + d) L Δ a w pd
  | 0, q, Γ, s, _, _ => ⟨Γ, s⟩
  | d + 1, q, Γ, s, hd, hl => by
    have hk : G[q]? = some G[q] := List.getElem?_eq_getElem (by omega)
    obtain ⟨Δ, s2⟩ := s.adv hst ht hk (hl q _ (Nat.le_refl _) (by omega) hk)
    have := St.advTo hst ht d (q + 1) Δ s2 (by omega) (fun m k h1 h2 => hl m k (by omega) (by omega))
    rwa [show q + 1 + d = q + (d + 1) by omega] at this
theorem St.named (hst : Stat P gops G bf) (ht : Trc call G S H V) {q : Nat} {L : Array Bool} {Γ : Gam} {a : Act} {w : World} {pd : Nat → Nat} (s : St call G bf S H V N Γ0 a0 w0 q L Γ a w pd)
    {p : Nat} {g : Grp} (hg : G[p]? = some g) (hpq : p ≤ q) (hnl : ¬ lis L g.i) (hbf : ∀ j, bf j g.i = true → lis L j) : SRel Γ (only g.o.ns (S p)) a.tmps := by
  have hpn : p < G.length := (List.getElem?_eq_some_iff.1 hg).1
  have hlen := S_len ht p (by omega)
  refine ⟨by rw [only_len, hlen, s.sz], fun t htl => ?_⟩
  rw [only_len, hlen] at htl
  rw [getN_only]
  by_cases hm : t ∈ g.o.ns
  · rw [if_pos hm]
    by_cases ex : ∃ (k : Nat) (f : Grp), G[k]? = some f ∧ f.o.d = some t
    · obtain ⟨k, f, hf, hd⟩ := ex
      rcases Nat.lt_or_ge k p with hkp | hkp
      · have hlf := hbf _ (hst.c2a k p f g t hkp hf hg hd hm)
        rw [S_new hst ht hkp (by omega) hf hd htl]
        exact s.w1 k f t hf hd htl (by omega) hlf
      · have hnf : ¬ lis L f.i := by
          rcases Nat.eq_or_lt_of_le hkp with e | e
          · subst e
            rw [hg] at hf
            simp at hf
            subst hf
            exact hnl
          · exact fun h => hnl (s.clos _ _ h (hst.c2b p k g f t e hg hf hd hm))
        rw [S_old ht (q := 0) (by omega) (by omega) (fun m f' h1 h2 hf' hd' => hst.c2c' hf hf' (by omega) hd hd')]
        exact s.w2 k f t hf hd hnf
    · rw [S_old ht (q := 0) (by omega) (by omega) (fun m f' h1 h2 hf' hd' => ex ⟨m, f', hf', hd'⟩)]
      exact s.w3 t fun m f' hf' hd' => ex ⟨m, f', hf', hd'⟩
  · rw [if_neg hm]
    exact fun e => absurd rfl e
theorem St.step (hcall : CallOk P N call) (hst : Stat P gops G bf) (ht : Trc call G S H V) {q : Nat} {L : Array Bool} (hL : L.size = gops.size) {Γ : Gam} {a : Act} {w : World} {pd : Nat → Nat} (s : St call G bf S H V N Γ0 a0 w0 q L Γ a w pd)
    {i : Nat} (hi : i ∈ Region.ready .any gops L) : wpOp P gops Q i (fun a' w' => ∃ q' Δ pd', St call G bf S H V N Γ0 a0 w0 q' (L.setIfInBounds i true) Δ a' w' pd') a w := by
  obtain ⟨h0, o, ho, hafter⟩ := mem_ready.1 hi
  have hin : i < gops.size := (Array.getElem?_eq_some_iff.1 ho).1
  obtain ⟨p, g, hg, rfl⟩ := hst.sur i hin
  have hpn : p < G.length := (List.getElem?_eq_some_iff.1 hg).1
  have hgi : g.i < L.size := by omega
  have hnl : ¬ lis L g.i := by
    unfold lis
    simp only [Array.getD_eq_getD_getElem?, Array.getElem?_eq_getElem hgi, Option.getD_some] at h0 ⊢
    rw [h0]; simp
  have hbf : ∀ j, bf j g.i = true → lis L j := fun j hb => by
    obtain ⟨o', ho', e, he, hbi, hor⟩ := hst.bfe j g.i hb
    rw [ho] at ho'
    simp at ho'
    subst ho'
    have hl := hafter e he hbi
    rcases hor with rfl | hor
    · exact hl
    · exact s.clos _ _ hl hor
  obtain ⟨o', ho', hok⟩ := hst.ok p g hg
  rw [ho] at ho'
  simp at ho'
  subst ho'
  have hdst : g.o.d = o.dst := by
    have := hok
    simp only [okOper, Bool.and_eq_true, decide_eq_true_eq] at this
    exact this.1.1
  rcases Classical.em (g.o.kd = .a) with hka | hka
  · obtain ⟨cs, hop, hg0⟩ := oper_a hka
    have hok' := hok
    simp only [okOper, Bool.and_eq_true, decide_eq_true_eq] at hok'
    obtain ⟨⟨-, hgd⟩, hopk⟩ := hok'
    rw [hop] at hopk
    obtain ⟨t, zv, hot, hz, hzz⟩ := okOp_alloc hopk
    unfold wpOp
    simp only [ho]
    have hw : Region.wanted o (yielded gops a.tmps) = true := by
      rw [hg0] at hgd
      cases hog : o.guard with
      | none => simp [Region.wanted, hog]
      | some x => rw [hog] at hgd; simp [okGuard] at hgd
    rw [if_pos hw]
    left
    have := wp_val (P := P) (Q := Q) (o := o) (a := a) (w := w) (x := .pointer (some ⟨w.heap.size, 0, none⟩)) (w' := w.alloc (.cells zv.cells t)) (next := fun a' w' => ∃ q' Δ pd', St call G bf S H V N Γ0 a0 w0 q' (L.setIfInBounds g.i true) Δ a' w' pd')
      (by simp [execOp, hot, Instr.alloc, run_zero hz, newVar, newRow]) ⟨q, Γ, _, by rw [← hdst]; exact s.alloc hst ht hg hgi hnl hbf hka hop hzz⟩
    exact this
  · rcases Nat.lt_or_ge p q with hpq | hpq
    · obtain ⟨u, hu, huv⟩ := s.late p g hpq hg hnl
      have hs := s.named hst ht hg (by omega) hnl hbf
      refine oper_sound (r := (u, H q)) hcall ho hok (σ := only g.o.ns (S p)) (K := ret) (by rw [oper_congr call (H q) g.o ret (agree_only _ _)]; exact hu ret) hs s.hr s.lo ?_
      intro v h' x w' Δ he hle hfr hh' hv
      simp only [ret, Option.some.injEq, Prod.mk.injEq] at he
      obtain ⟨rfl, rfl⟩ := he
      refine ⟨q, Δ, pd, ?_⟩
      rw [← hdst]
      exact s.put hst ht hg hgi hnl hbf hka (.inl ⟨hpq, rfl, huv⟩) hle hfr hh' hv
    · obtain ⟨Γ', s'⟩ := St.advTo hst ht (p - q) q Γ s (by omega) (fun m k h1 h2 hk hkk => hbf _ (hst.c3 m p k g (by omega) hk hg hkk hka))
      rw [show q + (p - q) = p by omega] at s'
      have hs := s'.named hst ht hg (by omega) hnl hbf
      refine oper_sound (r := (V p, H (p + 1))) hcall ho hok (σ := only g.o.ns (S p)) (K := ret) (by rw [oper_congr call (H p) g.o ret (agree_only _ _)]; exact ht.run p g hg) hs s'.hr s'.lo ?_
      intro v h' x w' Δ he hle hfr hh' hv
      simp only [ret, Option.some.injEq, Prod.mk.injEq] at he
      obtain ⟨rfl, rfl⟩ := he
      refine ⟨p + 1, Δ, pd, ?_⟩
      rw [← hdst]
      exact s'.put hst ht hg hgi hnl hbf hka (.inr ⟨rfl, rfl, rfl⟩) hle hfr hh' hv
end Go.AM
