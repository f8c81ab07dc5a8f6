import Derived.Test.YtfpkdeokpomocaaAMFn
import Derived.Test.YtfpkdeokpomocaaAMDr2
set_option linter.constructorNameAsVariable false
set_option linter.unusedVariables false
set_option linter.unusedSimpArgs false
set_option linter.unusedVariables false
set_option linter.unusedSimpArgs false
namespace Go.AM
open Go
variable {P : Program} {N : Nat} {Q : _root_.Go.Exit → Act → World → Prop} {r : Val × Heap}
theorem HRel.adopt {Γ : Gam} {h : Heap} {w : World} (hh : HRel Γ h w N) {B : Nat} (hN : N ≤ B) (hro : Γ.ro B = none) (hpr : ∀ q, Γ.pr B q = none) {arr : Array Value} {e : TypeId} {fr : Nat × Nat}
    (hB : w.heap[B]? = some (.cells arr e fr)) (cs : List Val) (hl : cs.length ≤ arr.size)
    (hc : ∀ i, i < cs.length → VRel Γ (cs.getD i .unk) (arr.getD i undef) ∧ (arr.getD i undef).oneCell' = true ∧ ¬ (fr.1 ≤ i ∧ i < fr.2)) :
    Γ.Le (Γ.addBl h.next B) ∧ HRel (Γ.addBl h.next B) (h.add (.cells cs)) w N := by
  have hBs := lt_of_heap hB
  have hle : Γ.Le (Γ.addBl h.next B) := ⟨fun b B' hb => by
      simp only [Gam.addBl]
      by_cases e : b = h.next
      · subst e; rw [hh.blnone (Nat.le_refl _)] at hb; cases hb
      · rw [if_neg e]; exact hb, fun B' r hr => by
      simp only [Gam.addBl]
      by_cases e : B' = B
      · subst e; rw [hro] at hr; cases hr
      · rw [if_neg e]; exact hr, fun _ _ _ h => h, fun _ _ _ h => h⟩
  refine ⟨hle, ⟨fun b x hb => ?_, fun b B' hb => ?_, fun B' r hr => ?_, fun B' q v hv => ?_, fun t n x ht => ?_, fun b l hb => ?_, fun t n ht => ?_, fun b l hb => ?_⟩⟩
  · rw [Heap.blk_add] at hb
    rw [Heap.next_add]
    split at hb
    · omega
    · have := hh.lt b x hb; omega
  · simp only [Gam.addBl] at hb ⊢
    rw [Heap.next_add]
    by_cases e1 : b = h.next
    · rw [if_pos e1] at hb
      simp at hb
      subst hb
      exact ⟨by omega, by rw [if_pos rfl, e1]⟩
    · rw [if_neg e1] at hb
      have h1 := hh.bllt b B' hb
      exact ⟨by omega, by rw [if_neg (fun e2 => by rw [e2, hro] at h1; cases h1.2)]; exact h1.2⟩
  · simp only [Gam.addBl] at hr
    by_cases e1 : B' = B
    · subst e1; exact ⟨hN, hBs⟩
    · rw [if_neg e1] at hr
      exact hh.rolt B' r hr
  · have hv' : Γ.pr B' q = some v := hv
    have h1 := hh.prok B' q v hv'
    refine ⟨h1.1, fun b hb => ?_⟩
    simp only [Gam.addBl] at hb
    rw [if_neg (fun e2 => by rw [e2, hpr] at hv'; cases hv')] at hb
    exact h1.2 b hb
  · have ht' : Γ.tk t n = some x := ht
    have h1 := hh.tklt t n x ht'
    obtain ⟨m, hm, hnm⟩ := h1.1
    refine ⟨⟨m, by rw [Heap.blk_add, if_neg (by have := hh.lt _ _ hm; omega)]; exact hm, hnm⟩, ?_⟩
    simp only [Gam.addBl]
    rw [if_neg (fun e2 => by have := h1.2; rw [e2, hro] at this; cases this)]
    exact h1.2
  · rw [Heap.blk_add] at hb
    split at hb
    · rename_i e1
      simp at hb
      subst hb
      refine ⟨B, arr, e, fr, by simp only [Gam.addBl]; rw [if_pos e1], hB, hl, fun i hi => ⟨(hc i hi).1.mono hle, (hc i hi).2⟩⟩
    · obtain ⟨B1, c1, e1, fr1, h1, h2, h3, h4⟩ := hh.cells b l hb
      exact ⟨B1, c1, e1, fr1, hle.bl _ _ h1, h2, h3, fun i hi => ⟨(h4 i hi).1.mono hle, (h4 i hi).2⟩⟩
  · rw [Heap.blk_add] at ht
    split at ht
    · simp at ht
    · obtain ⟨B1, q, c1, z, arr1, e1, fr1, h1, h2, h3, h4, h5⟩ := hh.toks t n ht
      exact ⟨B1, q, c1, z, arr1, e1, fr1, h1, h2, h3, h4, h5⟩
  · rw [Heap.blk_add] at hb
    split at hb
    · simp at hb
    · exact hh.maps b l hb
theorem HRel.stray {Γ : Gam} {h : Heap} {w : World} (hh : HRel Γ h w N) (x : Obj) : HRel Γ h (w.alloc x) N := by
  refine ⟨hh.lt, hh.bllt, fun B r hr => ?_, fun B q v hv => ?_, hh.tklt, fun b l hb => ?_, fun t n ht => ?_, hh.maps⟩
  · have := hh.rolt B r hr; exact ⟨this.1, by simp; omega⟩
  · have h1 := hh.prok B q v hv
    have h2 := World.block_lt_of_cell? w _ h1.1
    simp at h2
    exact ⟨by rw [World.cell?_alloc_lt w _ _ h2]; exact h1.1, h1.2⟩
  · obtain ⟨B, c1, e1, fr1, h1, h2, h3, h4⟩ := hh.cells b l hb
    exact ⟨B, c1, e1, fr1, h1, by rw [heap_alloc_lt w _ (lt_of_heap h2)]; exact h2, h3, h4⟩
  · obtain ⟨B, q, c1, z, arr1, e1, fr1, h1, h2, h3, h4, h5⟩ := hh.toks t n ht
    exact ⟨B, q, c1, z, arr1, e1, fr1, h1, by rw [heap_alloc_lt w _ (lt_of_heap h2)]; exact h2, h3, h4, h5⟩
theorem getN_getD (l : Slots) (i : Nat) : getN l i = l.getD i .unk := by
  induction l generalizing i with
  | nil => simp [getN]
  | cons x l ih => cases i <;> simp [getN, ih]
def only (ns : List Nat) (σ : Slots) : Slots := (List.range σ.length).map fun i => if i ∈ ns then getN σ i else .unk
theorem only_len (ns : List Nat) (σ : Slots) : (only ns σ).length = σ.length := by simp [only]
theorem getN_only (ns : List Nat) (σ : Slots) (i : Nat) : getN (only ns σ) i = if i ∈ ns then getN σ i else .unk := by
  rw [getN_getD]
  unfold only
  by_cases hi : i < σ.length
  · simp [List.getD_eq_getElem?_getD, hi]
  · have : getN σ i = .unk := getN_ge (by omega)
    rw [this]
    simp [List.getD_eq_getElem?_getD, hi]
theorem agree_only (ns : List Nat) (σ : Slots) : Agree ns (only ns σ) σ := fun n hn => by rw [getN_only, if_pos hn]
def lis (L : Array Bool) (i : Nat) : Prop := L.getD i false = true
structure Stat (P : Program) (gops : Array GOper) (G : List Grp) (bf : Nat → Nat → Bool) : Prop where
  len : G.length = gops.size
  sur : ∀ (j : Nat), j < gops.size → ∃ (p : Nat) (g : Grp), G[p]? = some g ∧ g.i = j
  inj : ∀ (p : Nat) (q : Nat) (g : Grp) (k : Grp), G[p]? = some g → G[q]? = some k → g.i = k.i → p = q
  ok : ∀ (p : Nat) (g : Grp), G[p]? = some g → ∃ (o : GOper), gops[g.i]? = some o ∧ okOper P gops g.o o = true
  bfe : ∀ (i : Nat) (j : Nat), bf i j = true → ∃ (o : GOper), gops[j]? = some o ∧ ∃ e ∈ o.after, Region.binds .any e = true ∧ (e.on = i ∨ bf i e.on = true)
  top : ∀ (p : Nat) (g : Grp) (o : GOper), G[p]? = some g → gops[g.i]? = some o → ∀ e ∈ o.after, Region.binds .any e = true → ∃ (q : Nat) (k : Grp), q < p ∧ G[q]? = some k ∧ k.i = e.on
  c2a : ∀ (p : Nat) (q : Nat) (g : Grp) (k : Grp) (t : Nat), p < q → G[p]? = some g → G[q]? = some k → g.o.d = some t → t ∈ k.o.ns → bf g.i k.i = true
  c2b : ∀ (p : Nat) (q : Nat) (g : Grp) (k : Grp) (t : Nat), p < q → G[p]? = some g → G[q]? = some k → k.o.d = some t → t ∈ g.o.ns → bf g.i k.i = true
  c2c : ∀ (p : Nat) (q : Nat) (g : Grp) (k : Grp) (t : Nat), p < q → G[p]? = some g → G[q]? = some k → g.o.d = some t → k.o.d ≠ some t
  c3 : ∀ (p : Nat) (q : Nat) (g : Grp) (k : Grp), p < q → G[p]? = some g → G[q]? = some k → (g.o.kd = .e ∨ g.o.kd = .a) → k.o.kd ≠ .a → bf g.i k.i = true
  c4 : ∀ (p : Nat) (q : Nat) (g : Grp) (k : Grp), p < q → G[p]? = some g → G[q]? = some k → g.o.kd = .r → k.o.kd = .e → bf g.i k.i = true ∨
    (g.o ∈ k.cks ∧ (∃ t, g.o.d = some t) ∧ ∀ (m : Nat) (f : Grp) (t : Nat), p ≤ m → m ≤ q → G[m]? = some f → f.o.d = some t → t ∉ g.o.ns)
section
variable {call : Call} {gops : Array GOper} {G : List Grp} {bf : Nat → Nat → Bool} {S : Nat → Slots} {H : Nat → Heap} {V : Nat → Val}
theorem setD_len (σ : Slots) (d : Option Nat) (v : Val) : (setD σ d v).length = σ.length := by
  cases d with
  | none => rfl
  | some d => exact length_setN σ d v
theorem S_len (ht : Trc call G S H V) : ∀ p, p ≤ G.length → (S p).length = (S 0).length
  | 0, _ => rfl
  | p + 1, h => by
    have hg : G[p]? = some G[p] := List.getElem?_eq_getElem (by omega)
    rw [ht.set p _ hg, setD_len]
    exact S_len ht p (by omega)
theorem S_old (ht : Trc call G S H V) {t : Nat} : ∀ {p q : Nat}, q ≤ p → p ≤ G.length → (∀ (k : Nat) (g : Grp), q ≤ k → k < p → G[k]? = some g → g.o.d ≠ some t) → getN (S p) t = getN (S q) t
  | 0, q, hq, _, _ => by rw [Nat.le_zero.1 hq]
  | p + 1, q, hq, hp, h => by
    by_cases e : q = p + 1
    · rw [e]
    · have hg : G[p]? = some G[p] := List.getElem?_eq_getElem (by omega)
      rw [ht.set p _ hg]
      have hd := h p _ (by omega) (by omega) hg
      have ih := S_old ht (p := p) (q := q) (t := t) (by omega) (by omega) (fun k g hk1 hk2 hg => h k g hk1 (by omega) hg)
      rw [← ih]
      cases hdd : (G[p]).o.d with
      | none => rfl
      | some d =>
        simp only [setD, getN_setN]
        rw [if_neg (fun e2 => hd (by rw [hdd, e2.1]))]
theorem S_new (hst : Stat P gops G bf) (ht : Trc call G S H V) {k p t : Nat} {g : Grp} (hkp : k < p) (hp : p ≤ G.length) (hg : G[k]? = some g) (hd : g.o.d = some t) (hl : t < (S 0).length) : getN (S p) t = V k := by
  rw [S_old ht (q := k + 1) (by omega) hp (fun m f h1 h2 hf => hst.c2c k m g f t (by omega) hg hf hd), ht.set k g hg, hd]
  have hl' : t < (S k).length := by rw [S_len ht k (by omega)]; exact hl
  simp [setD, getN_setN, hl']
structure Pend (Γ : Gam) (N M : Nat) (a : Act) (w : World) (g : Grp) (B : Nat) : Prop where
  lo : N ≤ B
  base : M ≤ B
  lt : B < w.heap.size
  ro : Γ.ro B = none
  pr : ∀ (i : Nat), Γ.pr B i = none
  row : ∃ arr e, w.heap[B]? = some (.cells arr e (0, 0)) ∧ ∀ cs, g.o.op = .alloc cs → okCs cs arr.toList = true
  ptr : ∀ (t : Nat), g.o.d = some t → t < a.tmps.size → a.tmps.getD t undef = .pointer (some ⟨B, 0, none⟩)
structure St (call : Call) (G : List Grp) (bf : Nat → Nat → Bool) (S : Nat → Slots) (H : Nat → Heap) (V : Nat → Val) (N : Nat) (Γ0 : Gam) (a0 : Act) (w0 : World)
    (q : Nat) (L : Array Bool) (Γ : Gam) (a : Act) (w : World) (pd : Nat → Nat) : Prop where
  hq : q ≤ G.length
  le : Γ0.Le Γ
  fr : Frame Γ0 Γ w0 w
  hr : HRel Γ (H q) w N
  lo : N ≤ w.heap.size
  df : a.defers = a0.defers
  sz : (S 0).length = a.tmps.size
  early : ∀ (p : Nat) (g : Grp), p < q → G[p]? = some g → (g.o.kd = .e ∨ g.o.kd = .a) → lis L g.i
  pend : ∀ (p : Nat) (g : Grp), q ≤ p → G[p]? = some g → lis L g.i → g.o.kd = .a ∧ Pend Γ N w0.heap.size a w g (pd p)
  inj : ∀ (p : Nat) (k : Nat) (g : Grp) (f : Grp), q ≤ p → q ≤ k → G[p]? = some g → G[k]? = some f → lis L g.i → lis L f.i → pd p = pd k → p = k
  clos : ∀ (i : Nat) (j : Nat), lis L j → bf i j = true → lis L i
  late : ∀ (p : Nat) (g : Grp), p < q → G[p]? = some g → ¬ lis L g.i → ∃ u, Tells call (S p) g.o u (H q) ∧ ∀ (t : Nat), g.o.d = some t → t < (S 0).length → u = V p
  w1 : ∀ (p : Nat) (g : Grp) (t : Nat), G[p]? = some g → g.o.d = some t → t < (S 0).length → p < q → lis L g.i → URel Γ (V p) (a.tmps.getD t undef)
  w2 : ∀ (p : Nat) (g : Grp) (t : Nat), G[p]? = some g → g.o.d = some t → ¬ lis L g.i → URel Γ (getN (S 0) t) (a.tmps.getD t undef)
  w3 : ∀ (t : Nat), (∀ (p : Nat) (g : Grp), G[p]? = some g → g.o.d ≠ some t) → URel Γ (getN (S 0) t) (a.tmps.getD t undef)
variable {Γ0 : Gam} {a0 : Act} {w0 : World}
theorem kd_cases (k : OK) : k = .p ∨ k = .r ∨ (k = .e ∨ k = .a) := by cases k <;> simp
theorem late_next (hst : Stat P gops G bf) (ht : Trc call G S H V) {q : Nat} {L : Array Bool} {k : Grp} (hk : G[q]? = some k) (hkd : k.o.kd = .e) (hkl : lis L k.i)
    (hcl : ∀ i j, lis L j → bf i j = true → lis L i) (hea : ∀ (p : Nat) (g : Grp), p < q → G[p]? = some g → (g.o.kd = .e ∨ g.o.kd = .a) → lis L g.i) (p : Nat) (g : Grp) (hp : p < q) (hg : G[p]? = some g) (hgl : ¬ lis L g.i) :
    ∃ u, Tells call (S p) g.o u (H (q + 1)) ∧ ∀ t, g.o.d = some t → t < (S 0).length → u = V p := by
  have hrun := ht.run p g hg
  have hqn : q < G.length := (List.getElem?_eq_some_iff.1 hk).1
  rcases kd_cases g.o.kd with h | h | h
  · exact ⟨V p, (oper_p h hrun).2 _, fun _ _ _ => rfl⟩
  · rcases hst.c4 p q g k hp hg hk h hkd with hb | ⟨hc, ⟨t, hd⟩, hno⟩
    · exact absurd (hcl _ _ hkl hb) hgl
    · obtain ⟨u, h', h1, h2⟩ := ht.chk q k g.o hk hc
      have h3 := oper_r h h1
      subst h3
      refine ⟨u, fun K => ?_, fun t' hd' hl => ?_⟩
      · rw [oper_congr call (H (q + 1)) g.o K (τ := S (q + 1)) (fun n hn => (S_old ht (by omega) (by omega) (fun m f h5 h6 hf hd5 => hno m f n h5 (by omega) hf hd5 hn)).symm)]
        exact tells_of h1 K
      · rw [hd] at hd'
        simp at hd'
        subst hd'
        rw [h2, hd]
        exact S_new hst ht (by omega) (by omega) hg hd hl
  · exact absurd (hea p g hp hg h) hgl
theorem St.adv (hst : Stat P gops G bf) (ht : Trc call G S H V) {q : Nat} {L : Array Bool} {Γ : Gam} {a : Act} {w : World} {pd : Nat → Nat} (s : St call G bf S H V N Γ0 a0 w0 q L Γ a w pd) {k : Grp} (hk : G[q]? = some k)
    (hl : (k.o.kd = .e ∨ k.o.kd = .a) → lis L k.i) : ∃ Δ, St call G bf S H V N Γ0 a0 w0 (q + 1) L Δ a w pd := by
  have hqn : q < G.length := (List.getElem?_eq_some_iff.1 hk).1
  have hrun := ht.run q k hk
  have same : H (q + 1) = H q → (¬ lis L k.i) → (Tells call (S q) k.o (V q) (H q)) → k.o.kd ≠ .e ∧ k.o.kd ≠ .a → ∃ Δ, St call G bf S H V N Γ0 a0 w0 (q + 1) L Δ a w pd := by
    intro hH hnl htl hkd
    refine ⟨Γ, { s with hq := hqn, hr := by rw [hH]; exact s.hr, early := fun p g hp hg hgk => ?_, pend := fun p g hp hg hgl => s.pend p g (by omega) hg hgl, inj := fun p k g f h1 h2 => s.inj p k g f (by omega) (by omega), late := fun p g hp hg hgl => ?_, w1 := fun p g t hg hd ht hp hgl => ?_ }⟩
    · by_cases e : p = q
      · subst e
        rw [hk] at hg
        simp at hg
        subst hg
        rcases hgk with h | h
        · exact absurd h hkd.1
        · exact absurd h hkd.2
      · exact s.early p g (by omega) hg hgk
    · by_cases e : p = q
      · subst e
        rw [hk] at hg
        simp at hg
        subst hg
        exact ⟨V p, by rw [hH]; exact htl, fun _ _ _ => rfl⟩
      · rw [hH]
        exact s.late p g (by omega) hg hgl
    · by_cases e : p = q
      · subst e
        rw [hk] at hg
        simp at hg
        subst hg
        exact absurd hgl hnl
      · exact s.w1 p g t hg hd ht (by omega) hgl
  have notl : k.o.kd ≠ .a → ¬ lis L k.i := fun h1 h2 => h1 (s.pend q k (Nat.le_refl _) hk h2).1
  rcases kd_cases k.o.kd with h | h | h
  · exact same (oper_p h hrun).1 (notl (by rw [h]; simp)) ((oper_p h hrun).2 _) (by rw [h]; simp)
  · have hH := oper_r h hrun
    rw [hH] at hrun
    exact same hH (notl (by rw [h]; simp)) (tells_of hrun) (by rw [h]; simp)
  · have hkl := hl h
    obtain ⟨hka, hpd⟩ := s.pend q k (Nat.le_refl _) hk hkl
    obtain ⟨cs, hop, hg0⟩ := oper_a hka
    unfold operC at hrun
    rw [hg0] at hrun
    simp only [hop, step, allocC, ret, Option.some.injEq, Prod.mk.injEq] at hrun
    obtain ⟨hV, hH⟩ := hrun
    obtain ⟨arr, e, hrow, hcs⟩ := hpd.row
    have hcr := okCs_sound (Γ := Γ) (hcs cs hop)
    obtain ⟨hle, hr'⟩ := s.hr.adopt hpd.lo hpd.ro hpd.pr hrow cs (by have := hcr.len; simp at this; omega) (fun i hi => ⟨by have := hcr.rel i hi; rwa [getD_toList arr] at this, by have := hcr.one i hi; rwa [getD_toList arr] at this, fun e => Nat.not_lt_zero _ e.2⟩)
    have hlater : ∀ p g, q + 1 ≤ p → G[p]? = some g → lis L g.i → pd p ≠ pd q := fun p g hp hg hgl e1 => by
      have := s.inj p q g k (by omega) (Nat.le_refl _) hg hk hgl hkl e1
      omega
    refine ⟨Γ.addBl (H q).next (pd q), ⟨hqn, s.le.trans hle, ⟨s.fr.os, s.fr.tape, s.fr.output, s.fr.size, s.fr.block, fun B hB hr => ?_, fun B i hB hr => s.fr.prn B i hB hr⟩, by rw [← hH]; exact hr', s.lo, s.df, s.sz, fun p g hp hg hgk => ?_, fun p g hp hg hgl => ?_, fun p k g f h1 h2 => s.inj p k g f (by omega) (by omega), s.clos, fun p g hp hg hgl => ?_, fun p g t hg hd ht1 hp hgl => ?_, fun p g t hg hd hgl => (s.w2 p g t hg hd hgl).mono hle, fun t h3 => (s.w3 t h3).mono hle⟩⟩
    · simp only [Gam.addBl]
      rw [if_neg (by have := hpd.base; omega)]
      exact s.fr.role B hB hr
    · by_cases e : p = q
      · subst e
        rw [hk] at hg
        simp at hg
        subst hg
        exact hkl
      · exact s.early p g (by omega) hg hgk
    · obtain ⟨h1, h2⟩ := s.pend p g (by omega) hg hgl
      refine ⟨h1, ⟨h2.lo, h2.base, h2.lt, ?_, h2.pr, h2.row, h2.ptr⟩⟩
      simp only [Gam.addBl]
      rw [if_neg (hlater p g hp hg hgl)]
      exact h2.ro
    · by_cases e : p = q
      · subst e
        rw [hk] at hg
        simp at hg
        subst hg
        exact absurd hkl hgl
      · obtain ⟨u, h1, h2⟩ := s.late p g (by omega) hg hgl
        rcases kd_cases g.o.kd with h5 | h5 | h5
        · exact ⟨u, (oper_p h5 (tells_iff h1)).2 _, h2⟩
        · exact ⟨u, by rw [← hH]; exact oper_r_add h5 s.hr.lt _ h1, h2⟩
        · exact absurd (s.early p g (by omega) hg h5) hgl
    · by_cases e : p = q
      · subst e
        rw [hk] at hg
        simp at hg
        subst hg
        rw [← hV]
        rw [hpd.ptr t hd (by rw [← s.sz]; exact ht1)]
        exact (VRel.ptr _ _ _ (by simp [Gam.addBl])).u
      · exact (s.w1 p g t hg hd ht1 (by omega) hgl).mono hle
 end
end Go.AM
