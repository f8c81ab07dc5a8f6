import Derived.Test.YtfpkdeokpomocaaAMPure2
set_option linter.constructorNameAsVariable false
set_option linter.unusedVariables false
set_option linter.unusedSimpArgs false
set_option linter.unusedVariables false
set_option linter.unusedSimpArgs false
namespace Go.AM
open Go
variable {P : Program} {N : Nat} {Γ : Gam} {h : Heap} {w : World} {σ : Slots} {a : Act} {o : GOper} {next : Act → World → Prop}
  {Q : _root_.Go.Exit → Act → World → Prop} {r : Val × Heap} {K : Val → Heap → R}
theorem CRel.take {cs : List Val} {vs : List Value} (h : CRel Γ cs vs) (n : Nat) : CRel Γ (cs.take n) (vs.take n) := by
  induction n generalizing cs vs with
  | zero => simpa using CRel.nil Γ
  | succ n ih =>
    cases cs with
    | nil => have := h.nil_inv; subst this; simpa using CRel.nil Γ
    | cons c cs => obtain ⟨v, vs, rfl, h1, h2, h3⟩ := h.cons_inv; simpa using CRel.cons h1 h2 (ih h3)
theorem CRel.drop {cs : List Val} {vs : List Value} (h : CRel Γ cs vs) (n : Nat) : CRel Γ (cs.drop n) (vs.drop n) := by
  induction n generalizing cs vs with
  | zero => simpa using h
  | succ n ih =>
    cases cs with
    | nil => have := h.nil_inv; subst this; simpa using CRel.nil Γ
    | cons c cs => obtain ⟨v, vs, rfl, h1, h2, h3⟩ := h.cons_inv; simpa using ih h3
theorem CRel.val {cs : List Val} {vs : List Value} (h : CRel Γ cs vs) {g : Bool} (hg : g = true ∨ cs.length = 1) :
    ∃ x, URel Γ (AM.mk g cs) x ∧ x = if g then .agg vs.toArray else vs.getD 0 undef := by
  cases g with
  | true => exact ⟨_, h.agg.u, rfl⟩
  | false =>
    rcases hg with hg | hg
    · cases hg
    · match cs, hg with
      | [c], _ =>
        obtain ⟨v, vs', rfl, h1, h2, h3⟩ := h.cons_inv
        have := h3.nil_inv
        subst this
        exact ⟨v, by simpa [AM.mk] using h1.u, rfl⟩
theorem run_part {t : TypeId} {g : Bool} {n : Nat} (hg : tAgg P t = some g) (hn : tSize P t = some n) (hgn : g = true ∨ n = 1) {vs : Array Value} {off : Nat} (hle : off + n ≤ vs.size) (w : World) :
    (part t vs off).run P w = .ok (if g then .agg ((vs.toList.drop off).take n).toArray else ((vs.toList.drop off).take n).getD 0 undef) w := by
  simp only [part, Sem.run_bind, run_isAgg hg, Result.andThen_ok]
  cases g with
  | true =>
    simp only [if_true, Sem.run_bind, run_sizeOf hn, Result.andThen_ok, Sem.run_pure]
    congr 2
    apply Array.ext'
    simp [List.take_drop]
  | false =>
    simp only [Bool.false_eq_true, if_false]
    have h1 : n = 1 := by simpa using hgn
    subst h1
    have hlt : off < vs.size := by omega
    simp [hlt, List.getD_eq_getElem?_getD]
theorem sd_fd (g : Bool) (off n : Nat) (t : TypeId) (f : Nat) (x : X) (x' : Operand) (ho : o.op = .field t x' f) (ft : TypeId) (hf : tFld P t f = some (off, ft)) (hg : tAgg P ft = some g) (hn : tSize P ft = some n)
    (hgn : g = true ∨ n = 1) (h1 : okX x x' = true) (hs : SRel Γ σ a.tmps) (hh : HRel Γ h w N)
    (hk : fdC g off n (ev σ x) (fun v => K v h) = some r) (hc : Cont Γ w N K r a o.dst next) : o.wp P a w next Q := by
  unfold fdC at hk
  split at hk
  · rename_i l e
    split at hk
    · rename_i cs hcs
      have hx := okX_sound hs h1
      rw [e] at hx
      obtain ⟨vs, e1, hr⟩ := (hx (by simp)).agg_inv
      obtain ⟨l1, hl1, hl2⟩ := Option.bind_eq_some_iff.1 hcs
      obtain ⟨rfl, hd⟩ := dropN_some hl1
      obtain ⟨rfl, ht⟩ := takeN_some hl2
      have hrr := (hr.drop off).take n
      have hsz : l.length = vs.size := by simpa using hr.len
      have hg1 : g = true ∨ ((l.drop off).take n).length = 1 := by
        rcases hgn with hgn | hgn
        · exact .inl hgn
        · right; simp at ht ⊢; omega
      obtain ⟨y, hy, hyv⟩ := hrr.val (g := g) hg1
      refine wp_pure hc hh (x := y) ?_ hy hk
      have hst : ∃ fs fl, P.underlying t = some (.struct fs) ∧ fs[f]? = some fl ∧ fl.offset = off ∧ fl.type = ft := by
        unfold tFld at hf
        split at hf
        · rename_i fs hu
          obtain ⟨fl, hfl, he⟩ := Option.map_eq_some_iff.1 hf
          simp at he
          exact ⟨fs, fl, hu, hfl, he.1, he.2⟩
        · cases hf
      obtain ⟨fs, fl, hu, hfl, ho1, ho2⟩ := hst
      have hp := run_part (P := P) (t := ft) (vs := vs) (off := off) hg hn hgn (by simp at ht; omega) w
      simp only [execOp, ho, Instr.field, Sem.run_bind, run_underlying hu, Result.andThen_ok, hfl, e1, asAgg, Sem.run_pure, ho1, ho2, hp, hyv]
    · cases hk
  · cases hk
theorem sd_ex (i : Nat) (x : X) (x' : Operand) (ho : o.op = .extract x' i) (h1 : okX x x' = true) (hs : SRel Γ σ a.tmps) (hh : HRel Γ h w N)
    (hk : exC i (ev σ x) (fun v => K v h) = some r) (hc : Cont Γ w N K r a o.dst next) : o.wp P a w next Q := by
  unfold exC at hk
  split at hk
  · rename_i l e
    split at hk
    · rename_i v hv
      have hx := okX_sound hs h1
      rw [e] at hx
      obtain ⟨vs, e1, hr⟩ := (hx (by simp)).tup_inv
      have hv' := nthN_some hv
      have hi : i < l.length := by
        rcases Nat.lt_or_ge i l.length with h | h
        · exact h
        · rw [List.getElem?_eq_none h] at hv'; cases hv'
      have hi2 : i < vs.size := by have := hr.len; simp at this; omega
      have hrel := hr.rel i hi
      have hg : l.getD i .unk = v := by rw [List.getD_eq_getElem?_getD, hv']; rfl
      rw [hg] at hrel
      refine wp_pure hc hh (x := vs[i]) ?_ (by simpa [hi2] using hrel) hk
      simp [execOp, ho, e1, Instr.extract, hi2]
    · cases hk
  · cases hk
theorem addr_add (B q n : Nat) : (Addr.mk B q none).add n = ⟨B, q + n, none⟩ := by
  unfold Addr.add
  split
  · rename_i h; subst h; rfl
  · rfl
theorem VRel.ep_drop {cs : List Val} {B q : Nat} {f : Nat → Value} (h1 : ∀ i, i < cs.length → Γ.pr B (q + i) = some (f i) ∧ (f i).oneCell' = true)
    (h2 : ∀ i, i < cs.length → VRel Γ (cs.getD i .unk) (f i)) (off : Nat) : VRel Γ (.ep (cs.drop off)) (.pointer (some ⟨B, q + off, none⟩)) := by
  refine .ep _ B (q + off) (fun i => f (off + i)) (fun i hi => ?_) (fun i hi => ?_)
  · have : off + i < cs.length := by simp at hi; omega
    rw [Nat.add_assoc]; exact h1 _ this
  · have : off + i < cs.length := by simp at hi; omega
    have := h2 _ this
    simpa [List.getD_eq_getElem?_getD] using this
theorem run_fieldPlace {fl : Field} {n : Nat} (hn : tSize P fl.type = some n) (h0 : n ≠ 0) (B q : Nat) (w : World) :
    (fieldPlace ⟨B, q, none⟩ fl).run P w = .ok ⟨B, q + fl.offset, none⟩ w := by
  simp [fieldPlace, run_sizeOf hn, h0, addr_add]
theorem sd_fa (off : Nat) (t : TypeId) (f : Nat) (x : X) (x' : Operand) (ho : o.op = .fieldAddr t x' f) (ft : TypeId) (hf : tFld P t f = some (off, ft)) (n : Nat) (hn : tSize P ft = some n) (h0 : n ≠ 0)
    (h1 : okX x x' = true) (hs : SRel Γ σ a.tmps) (hh : HRel Γ h w N)
    (hk : faC off (ev σ x) (fun v => K v h) = some r) (hc : Cont Γ w N K r a o.dst next) : o.wp P a w next Q := by
  have hx := okX_sound hs h1
  have hst : ∃ fs fl, P.underlying t = some (.struct fs) ∧ fs[f]? = some fl ∧ fl.offset = off ∧ fl.type = ft := by
    unfold tFld at hf
    split at hf
    · rename_i fs hu
      obtain ⟨fl, hfl, he⟩ := Option.map_eq_some_iff.1 hf
      simp at he
      exact ⟨fs, fl, hu, hfl, he.1, he.2⟩
    · cases hf
  obtain ⟨fs, fl, hu, hfl, ho1, ho2⟩ := hst
  subst ho2
  have key : ∀ B q, a.eval x' = .pointer (some ⟨B, q, none⟩) → (execOp a.eval o).run P w = .ok (.value (.pointer (some ⟨B, q + off, none⟩))) w := by
    intro B q e1
    simp [execOp, ho, Instr.fieldAt, run_underlying hu, hfl, e1, Instr.sureAddr, run_fieldPlace hn h0, ho1]
  unfold faC at hk
  split at hk
  · rename_i b q e
    rw [e] at hx
    obtain ⟨B, e1, hB⟩ := (hx (by simp)).ptr_inv
    exact wp_pure hc hh (key B q e1) (VRel.ptr b _ B hB).u hk
  · rename_i cs e
    rw [e] at hx
    obtain ⟨B, q, g, e1, h1, h2⟩ := (hx (by simp)).ep_inv
    split at hk
    · rename_i cs' hcs
      obtain ⟨rfl, -⟩ := dropN_some hcs
      exact wp_pure hc hh (key B q e1) (VRel.ep_drop h1 h2 off).u hk
    · cases hk
  · cases hk
theorem tArr_some {t : TypeId} {n : Nat} {e : TypeId} (h : tArr P t = some (n, e)) : P.underlying t = some (.array n e) := by
  unfold tArr at h
  split at h
  · simp at h; obtain ⟨rfl, rfl⟩ := h; assumption
  · cases h
theorem tSl_some {t : TypeId} {e : TypeId} (h : tSl P t = some e) : P.underlying t = some (.slice e) := by
  unfold tSl at h
  split at h
  · simp at h; subst h; assumption
  · cases h
theorem tInt_some {t : TypeId} {k : IntKind} (h : tInt P t = some k) : P.underlying t = some (.int k) := by
  unfold tInt at h
  split at h
  · simp at h; subst h; assumption
  · cases h
theorem tStr_some {t : TypeId} (h : tStr P t = true) : P.underlying t = some .string := by
  unfold tStr at h
  split at h
  · assumption
  · cases h
theorem sd_ixp (n z : Nat) (t e : TypeId) (x i : X) (x' i' : Operand) (ho : o.op = .indexAddr t x' i') (ht : tArr P t = some (n, e)) (hz : tSize P e = some z)
    (h1 : okX x x' = true) (h2 : okX i i' = true) (hs : SRel Γ σ a.tmps) (hh : HRel Γ h w N)
    (hk : ixpC n z (ev σ x) (ev σ i) (fun v => K v h) = some r) (hc : Cont Γ w N K r a o.dst next) : o.wp P a w next Q := by
  have hx := okX_sound hs h1
  have hi := okX_sound hs h2
  have hu := tArr_some ht
  have key : ∀ B q k m, a.eval x' = .pointer (some ⟨B, q, none⟩) → a.eval i' = .int k m → 0 ≤ m → m < (n : Int) →
      (execOp a.eval o).run P w = .ok (.value (.pointer (some ⟨B, q + m.toNat * z, none⟩))) w := by
    intro B q k m e1 e2 hm0 hm1
    simp [execOp, ho, Instr.indexAt, run_underlying hu, e1, e2, Instr.sureAddr, asIntOf, hm0, hm1, run_sizeOf hz, addr_add]
  unfold ixpC at hk
  split at hk
  · rename_i b q k m ex ei
    cases hb : (decide (0 ≤ m) && decide (m < (n : Int))) with
    | false => rw [hb] at hk; cases hk
    | true =>
      rw [hb, cond_true] at hk
      simp at hb
      rw [ex] at hx
      obtain ⟨B, e1, hB⟩ := (hx (by simp)).ptr_inv
      exact wp_pure hc hh (key B q k m e1 (oi hi ei) hb.1 hb.2) (VRel.ptr b _ B hB).u hk
  · rename_i cs k m ex ei
    cases hb : (decide (0 ≤ m) && decide (m < (n : Int))) with
    | false => rw [hb] at hk; cases hk
    | true =>
      rw [hb, cond_true] at hk
      simp at hb
      rw [ex] at hx
      obtain ⟨B, q, g, e1, h1, h2⟩ := (hx (by simp)).ep_inv
      split at hk
      · rename_i cs' hcs
        obtain ⟨rfl, -⟩ := dropN_some hcs
        exact wp_pure hc hh (key B q k m e1 (oi hi ei) hb.1 hb.2) (VRel.ep_drop h1 h2 _).u hk
      · cases hk
  · cases hk
theorem VRel.sl_inv {u : Own} {z : Nat} {l : List Val} {x : Value} (h : VRel Γ (.sl u z l) x) (hl : l ≠ []) :
    ∃ (B q c : Nat) (f : Nat → Value), x = .slice (some ⟨B, q, none⟩) l.length c ∧ u.fits Γ B q l.length c z ∧ l.length ≤ c ∧ (∀ y ∈ l, (cells y).length = z) ∧
      (∀ i, i < (l.flatMap cells).length → Γ.pr B (q + i) = some (f i) ∧ (f i).oneCell' = true) ∧ ∀ i, i < (l.flatMap cells).length → VRel Γ ((l.flatMap cells).getD i .unk) (f i) := by
  cases h with
  | sl0 w z c a h => exact absurd rfl hl
  | nls z => exact absurd rfl hl
  | sl w z l B q c f hw hcap hz h1 h2 => exact ⟨B, q, c, f, rfl, hw, hcap, hz, h1, h2⟩
theorem VRel.sl_len {u : Own} {z : Nat} {l : List Val} {x : Value} (h : VRel Γ (.sl u z l) x) : ∃ a c, x = .slice a l.length c := by
  cases h with
  | sl0 w z c a h => exact ⟨_, _, rfl⟩
  | nls z => exact ⟨_, _, rfl⟩
  | sl w z l B q c f hw hcap hz h1 h2 => exact ⟨_, _, rfl⟩
theorem flat_len {z : Nat} : ∀ {l : List Val}, (∀ y ∈ l, (cells y).length = z) → (l.flatMap cells).length = l.length * z
  | [], _ => by simp
  | x :: l, h => by
    have h1 := h x (by simp)
    have h2 := flat_len (l := l) (fun y hy => h y (by simp [hy]))
    simp only [List.flatMap_cons, List.length_append, List.length_cons, h1, h2]
    rw [Nat.add_mul, Nat.one_mul, Nat.add_comm]
theorem flat_drop {z : Nat} : ∀ {l : List Val} (n : Nat), (∀ y ∈ l, (cells y).length = z) → (l.drop n).flatMap cells = (l.flatMap cells).drop (n * z)
  | [], n, _ => by simp
  | x :: l, 0, _ => by simp
  | x :: l, n + 1, h => by
    have h1 := h x (by simp)
    rw [List.drop_succ_cons, flat_drop n (fun y hy => h y (by simp [hy])), List.flatMap_cons, List.drop_append, h1, Nat.add_mul,
      show n * z + 1 * z - z = n * z by omega, show (cells x).drop (n * z + 1 * z) = [] from List.drop_eq_nil_of_le (by omega), List.nil_append]
theorem flat_take {z : Nat} : ∀ {l : List Val} (n : Nat), (∀ y ∈ l, (cells y).length = z) → (l.take n).flatMap cells = (l.flatMap cells).take (n * z)
  | [], n, _ => by simp
  | x :: l, 0, _ => by simp
  | x :: l, n + 1, h => by
    have h1 := h x (by simp)
    rw [List.take_succ_cons, List.flatMap_cons, flat_take n (fun y hy => h y (by simp [hy])), List.flatMap_cons, List.take_append, h1, Nat.add_mul,
      show n * z + 1 * z - z = n * z by omega, show (cells x).take (n * z + 1 * z) = cells x from List.take_of_length_le (by omega)]
theorem flat_nth {z : Nat} {l : List Val} (h : ∀ y ∈ l, (cells y).length = z) {n : Nat} {v : Val} (hv : l[n]? = some v) : cells v = ((l.flatMap cells).drop (n * z)).take z := by
  have hn : n < l.length := by
    rcases Nat.lt_or_ge n l.length with h | h
    · exact h
    · rw [List.getElem?_eq_none h] at hv; cases hv
  have hv' : l[n] = v := by rw [List.getElem?_eq_getElem hn] at hv; simpa using hv
  rw [← flat_drop n h, List.drop_eq_getElem_cons hn, List.flatMap_cons, hv', List.take_append_of_le_length (by rw [h v (by rw [← hv']; exact List.getElem_mem hn)]; exact Nat.le_refl z),
    List.take_of_length_le (by rw [h v (by rw [← hv']; exact List.getElem_mem hn)]; exact Nat.le_refl z)]
theorem sd_ixs (z : Nat) (t e : TypeId) (x i : X) (x' i' : Operand) (ho : o.op = .indexAddr t x' i') (ht : tSl P t = some e) (hz : tSize P e = some z)
    (h1 : okX x x' = true) (h2 : okX i i' = true) (hs : SRel Γ σ a.tmps) (hh : HRel Γ h w N)
    (hk : ixsC z (ev σ x) (ev σ i) (fun v => K v h) = some r) (hc : Cont Γ w N K r a o.dst next) : o.wp P a w next Q := by
  have hx := okX_sound hs h1
  have hi := okX_sound hs h2
  have hu := tSl_some ht
  have key : ∀ B q len c k m, a.eval x' = .slice (some ⟨B, q, none⟩) len c → a.eval i' = .int k m → 0 ≤ m → m < (len : Int) →
      (execOp a.eval o).run P w = .ok (.value (.pointer (some ⟨B, q + m.toNat * z, none⟩))) w := by
    intro B q len c k m e1 e2 hm0 hm1
    simp [execOp, ho, Instr.indexAt, run_underlying hu, e1, e2, asIntOf, hm0, hm1, run_sizeOf hz, addr_add]
  unfold ixsC at hk
  split at hk
  · rename_i b q n c z' k m ex ei
    cases hb : (z.beq z' && decide (0 ≤ m) && decide (m < (n : Int))) with
    | false => rw [hb] at hk; cases hk
    | true =>
      rw [hb, cond_true] at hk
      simp only [Bool.and_eq_true, decide_eq_true_eq] at hb
      rw [ex] at hx
      obtain ⟨B, c', e1, hB, -⟩ := (hx (by simp)).ms_inv
      exact wp_pure hc hh (key B q n c' k m e1 (oi hi ei) hb.1.2 hb.2) (VRel.ptr b _ B hB).u hk
  · rename_i u z' l k m ex ei
    cases hb : (z.beq z' && decide (0 ≤ m)) with
    | false => rw [hb] at hk; cases hk
    | true =>
      rw [hb, cond_true] at hk
      simp only [Bool.and_eq_true, decide_eq_true_eq] at hb
      obtain ⟨hzz, hm0⟩ := hb
      have hzz' := Nat.eq_of_beq_eq_true hzz
      subst hzz'
      split at hk
      · rename_i v hv
        have hv' := nthN_some hv
        have hn : m.toNat < l.length := by
          rcases Nat.lt_or_ge m.toNat l.length with h | h
          · exact h
          · rw [List.getElem?_eq_none h] at hv'; cases hv'
        rw [ex] at hx
        obtain ⟨B, q, c, f, e1, -, -, hz', hf, hr⟩ := (hx (by simp)).sl_inv (fun e => by simp [e] at hn)
        have hv2 := flat_nth hz' hv'
        refine wp_pure hc hh (key B q l.length c k m e1 (oi hi ei) hm0 (by omega)) ?_ hk
        have := VRel.ep_drop hf hr (m.toNat * z)
        rw [hv2]
        have h3 := this
        refine VRel.u ?_
        obtain ⟨B', q', g, e3, g1, g2⟩ := this.ep_inv
        simp at e3
        obtain ⟨rfl, rfl⟩ := e3
        refine .ep _ _ _ g (fun i hi => g1 i (by simp at hi ⊢; omega)) (fun i hi => ?_)
        have := g2 i (by simp at hi ⊢; omega)
        have hiz : i < z := by simp at hi; omega
        simpa [List.getD_eq_getElem?_getD, List.getElem?_take, hiz] using this
      · cases hk
  · cases hk
theorem takeB_eq : ∀ (n : Nat) (l : List UInt8), takeB n l = l.take n
  | 0, _ => by simp [takeB]
  | n + 1, [] => by simp [takeB]
  | n + 1, x :: l => by simp [takeB, takeB_eq n l]
theorem dropB_eq : ∀ (n : Nat) (l : List UInt8), dropB n l = l.drop n
  | 0, l => by cases l <;> rfl
  | n + 1, [] => by simp [dropB]
  | n + 1, x :: l => by simp [dropB, dropB_eq n l]
theorem nthB_eq : ∀ (n : Nat) (l : List UInt8), nthB n l = l[n]?
  | 0, [] => rfl
  | 0, _ :: _ => rfl
  | n + 1, [] => by simp [nthB]
  | n + 1, x :: l => by simpa [nthB] using nthB_eq n l
theorem sd_ixt (t : TypeId) (x i : X) (x' i' : Operand) (ho : o.op = .index t x' i') (ht : tStr P t = true)
    (h1 : okX x x' = true) (h2 : okX i i' = true) (hs : SRel Γ σ a.tmps) (hh : HRel Γ h w N)
    (hk : ixtC (ev σ x) (ev σ i) (fun v => K v h) = some r) (hc : Cont Γ w N K r a o.dst next) : o.wp P a w next Q := by
  have hx := okX_sound hs h1
  have hi := okX_sound hs h2
  have hu := tStr_some ht
  unfold ixtC at hk
  split at hk
  · rename_i s k m ex ei
    cases hb : decide (0 ≤ m) with
    | false => rw [hb] at hk; cases hk
    | true =>
      rw [hb, cond_true] at hk
      have hm0 := of_decide_eq_true hb
      split at hk
      · rename_i b hbb
        rw [nthB_eq] at hbb
        obtain ⟨s1, e1, rfl⟩ := os_ hx ex
        have e2 := oi hi ei
        refine wp_pure hc hh (x := .int .u8 b.toNat) ?_ (VRel.int _ _).u hk
        have hget : s1[m.toNat]? = some b := by
          have hlt : m.toNat < s1.size := by
            rcases Nat.lt_or_ge m.toNat s1.data.toList.length with h | h
            · simpa using h
            · rw [List.getElem?_eq_none h] at hbb; cases hbb
          rw [getElem?_pos s1 m.toNat hlt]
          rw [List.getElem?_eq_getElem (by simpa using hlt)] at hbb
          simp only [Array.getElem_toList, Option.some.injEq] at hbb
          rw [← hbb]; rfl
        simp [execOp, ho, Instr.index, run_underlying hu, e1, e2, asIntOf, hm0, hget]
      · cases hk
  · cases hk
theorem bnd_some {lo hi n : Nat} {x : Val} (h : bnd lo hi x = some n) : ∃ k m, x = .int k m ∧ (lo : Int) ≤ m ∧ m ≤ (hi : Int) ∧ n = m.toNat := by
  unfold bnd at h
  split at h
  · rename_i k m
    cases hb : (decide ((lo : Int) ≤ m) && decide (m ≤ (hi : Int))) with
    | false => rw [hb] at h; cases h
    | true =>
      rw [hb, cond_true] at h
      simp at hb h
      exact ⟨k, m, rfl, hb.1, hb.2, h.symm⟩
  · cases h
theorem run_sliceBound {x : Val} {y : Value} (hxy : URel Γ x y) {hi n : Nat} (h : bnd 0 hi x = some n) (c : BoundsCode) (w : World) : (Instr.sliceBound y hi c).run P w = .ok n w ∧ n ≤ hi := by
  obtain ⟨k, m, rfl, h1, h2, rfl⟩ := bnd_some h
  have := oi hxy rfl
  subst this
  refine ⟨?_, by omega⟩
  have h1' : 0 ≤ m := by simpa using h1
  simp [Instr.sliceBound, asIntOf, h1', h2]
def oRel (Γ : Gam) : Option Val → Option Value → Prop
  | none, none => True
  | some v, some x => URel Γ v x
  | _, _ => False
theorem okXo_sound (hs : SRel Γ σ a.tmps) {x : Option X} {y : Option Operand} (h : okXo x y = true) : oRel Γ (evo σ x) (y.map a.eval) := by
  cases x <;> cases y <;> simp_all [okXo, oRel, evo]
  exact okX_sound hs h
theorem run_sliceBounds {isSlice : Bool} {len cap l e : Nat} {lo hi : Option Val} {lo' hi' : Option Value} (h1 : oRel Γ lo lo') (h2 : oRel Γ hi hi') (hlen : len ≤ cap)
    (he : obnd 0 cap len hi = some e) (hl : obnd 0 e 0 lo = some l) (w : World) : (Instr.sliceBounds isSlice len cap lo' hi' none).run P w = .ok (l, e, cap) w ∧ l ≤ e ∧ e ≤ cap := by
  unfold Instr.sliceBounds
  cases hi with
  | none =>
    cases hi' with
    | some _ => exact h2.elim
    | none =>
      simp [obnd] at he
      subst he
      cases lo with
      | none =>
        cases lo' with
        | some _ => exact h1.elim
        | none => simp [obnd] at hl; subst hl; simp [hlen]
      | some v =>
        cases lo' with
        | none => exact h1.elim
        | some v' =>
          obtain ⟨hr, hle⟩ := run_sliceBound (P := P) h1 hl .sliceB w
          simp [hr, hle, hlen]
  | some u =>
    cases hi' with
    | none => exact h2.elim
    | some u' =>
      obtain ⟨hr2, hle2⟩ := run_sliceBound (P := P) h2 he (if isSlice then .sliceAcap else .sliceAlen) w
      cases lo with
      | none =>
        cases lo' with
        | some _ => exact h1.elim
        | none => simp [obnd] at hl; subst hl; simp [hr2, hle2]
      | some v =>
        cases lo' with
        | none => exact h1.elim
        | some v' =>
          obtain ⟨hr, hle⟩ := run_sliceBound (P := P) h1 hl .sliceB w
          simp [hr, hle, hr2, hle2]
theorem sd_sls (t : TypeId) (x : X) (lo hi : Option X) (x' : Operand) (lo' hi' : Option Operand) (ho : o.op = .slice t x' lo' hi' none) (ht : tStr P t = true)
    (h1 : okX x x' = true) (h2 : okXo lo lo' = true) (h3 : okXo hi hi' = true) (hs : SRel Γ σ a.tmps) (hh : HRel Γ h w N)
    (hk : slsC (ev σ x) (evo σ lo) (evo σ hi) (fun v => K v h) = some r) (hc : Cont Γ w N K r a o.dst next) : o.wp P a w next Q := by
  have hx := okX_sound hs h1
  have hu := tStr_some ht
  unfold slsC at hk
  split at hk
  · rename_i s ex
    split at hk
    · rename_i e he
      split at hk
      · rename_i l hl
        obtain ⟨s1, e1, rfl⟩ := os_ hx ex
        have hsz : s1.data.toList.length = s1.size := Array.length_toList
        rw [hsz] at he
        obtain ⟨hr, hle, hle2⟩ := run_sliceBounds (P := P) (isSlice := false) (okXo_sound hs h2) (okXo_sound hs h3) (Nat.le_refl _) he hl w
        refine wp_pure hc hh (x := .string (s1.extract l e)) ?_ (VRel.str _ _ ?_).u hk
        · simp [execOp, ho, Instr.sliceAt, Instr.slice, run_underlying hu, e1, hr]
        · rw [takeB_eq, dropB_eq, ByteArray.data_extract, Array.toList_extract, List.extract_eq_take_drop, List.drop_take]
      · cases hk
    · cases hk
  · cases hk
end Go.AM
