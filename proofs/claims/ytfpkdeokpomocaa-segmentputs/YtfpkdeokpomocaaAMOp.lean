import Derived.Test.YtfpkdeokpomocaaAMCall
set_option linter.constructorNameAsVariable false
set_option linter.unusedVariables false
set_option linter.unusedSimpArgs false
set_option linter.unusedVariables false
set_option linter.unusedSimpArgs false
namespace Go.AM
open Go
variable {P : Program} {N : Nat} {Γ : Gam} {h : Heap} {w : World} {σ : Slots} {a : Act} {o : GOper} {next : Act → World → Prop}
  {Q : _root_.Go.Exit → Act → World → Prop} {r : Val × Heap} {K : Val → Heap → R}
def okNe : Bool → BinOp → Bool
  | true, .neq | false, .eql => true
  | _, _ => false
theorem okNe_eq {ne : Bool} {g : BinOp} (h : okNe ne g = true) : g = (if ne then .neq else .eql) := by
  cases ne <;> cases g <;> simp [okNe] at h <;> rfl
def okOp (P : Program) (s : Op) (g : GOp) : Bool :=
  match s, g with
  | .mov x, .move y => okX x y
  | .mov x, .assign y => okX x y
  | .pick x y z, .pick x' y' z' => okX x x' && okX y y' && okX z z'
  | .alloc cs, .alloc t => match tZero P t with
    | some zv => okCs cs zv.cells.toList
    | none => false
  | .box z x, .box t x' => !z.beq 0 && okX x x'
  | .agg zs ps, .build t qs => match tPlace P t, tZero P t with
    | some pl, some zv => okCs zs zv.cells.toList && okParts pl ps qs.toList
    | _, _ => false
  | .bsl z [], .buildSlice t 0 qs => match tSl P t with
    | some e => decide (tSize P e = some z) && okSl 0 [] qs.toList
    | none => false
  | .bsl z xs, .buildSlice t len qs => match tSl P t with
    | some e => match tZero P e with
      | some zv => decide (tSize P e = some z) && zv.cells.size.beq z && !z.beq 0 && len.beq xs.length && decide (len * z ≤ 2 ^ 24) && !len.beq 0 && okSl 0 xs qs.toList
      | none => false
    | none => false
  | .ld g n x, .load t x' => decide (tAgg P t = some g) && decide (tSize P t = some n) && (g || n.beq 1) && okX x x'
  | .st n x y, .store t x' y' => decide (tSize P t = some n) && !n.beq 0 && okX x x' && okX y y'
  | .nil x, .nilCheck x' => okX x x'
  | .fa off x, .fieldAddr t x' f => match tFld P t f with
    | some (off', ft) => match tSize P ft with
      | some n => off'.beq off && !n.beq 0 && okX x x'
      | none => false
    | none => false
  | .bi op x y, .binOp gop _ x' y' _ => okIop op gop && okX x x' && okX y y'
  | .sh op x y, .binOp gop _ x' y' _ => okShop op gop && okX x x' && okX y y'
  | .cm op x y, .binOp gop _ x' y' _ => okCop op gop && okX x x' && okX y y'
  | .ce k ne x y, .binOp gop t x' y' _ => okNe ne gop && okCe P t x' y' k && okX x x' && okX y y'
  | .cea ks ne x y, .binOp gop t x' y' _ => okNe ne gop && okCea P t ks && okX x x' && okX y y'
  | .adds x y, .binOp .add _ x' y' _ => okX x x' && okX y y'
  | .css x, .convert s t x' => (P.underlying s).isSome && tStr P t && okX x x'
  | .cvi k x, .convert s t x' => (P.underlying s).isSome && decide (tInt P t = some k) && okX x x'
  | .cvs x, .convert s t x' => match tSl P s with
    | some e => decide (tInt P e = some .u8) && tStr P t && okX x x'
    | none => false
  | .cvb x, .convert s t x' => match tSl P t with
    | some e => decide (tInt P e = some .u8) && tStr P s && okX x x'
    | none => false
  | .not x, .unOp .not _ x' => okX x x'
  | .neg x, .unOp .neg _ x' => okX x x'
  | .cpl x, .unOp .xor _ x' => okX x x'
  | .sls x lo hi, .slice t x' lo' hi' none => tStr P t && okX x x' && okXo lo lo' && okXo hi hi'
  | .sll z x lo hi, .slice t x' lo' hi' none => match tSl P t with
    | some e => decide (tSize P e = some z) && okX x x' && okXo lo lo' && okXo hi hi'
    | none => false
  | .slx z x lo hi mx, .slice t x' lo' (some hi') (some mx') => match tSl P t with
    | some e => decide (tSize P e = some z) && okX x x' && okXo lo lo' && okX hi hi' && okX mx mx'
    | none => false
  | .sla n z x lo hi, .slice t x' lo' hi' none => (match tArr P t with
      | some (n', e) => n'.beq n && decide (tSize P e = some z)
      | none => match P.underlying t with
        | some (.pointer arr) => match tArr P arr with
          | some (n', e) => n'.beq n && decide (tSize P e = some z)
          | none => false
        | _ => false) && okX x x' && okXo lo lo' && okXo hi hi'
  | .ixp n z x i, .indexAddr t x' i' => match tArr P t with
    | some (n', e) => n'.beq n && decide (tSize P e = some z) && okX x x' && okX i i'
    | none => false
  | .ixs z x i, .indexAddr t x' i' => match tSl P t with
    | some e => decide (tSize P e = some z) && okX x x' && okX i i'
    | none => false
  | .ixt x i, .index t x' i' => tStr P t && okX x x' && okX i i'
  | .ixa g n z x i, .index t x' i' => match tArr P t with
    | some (n', e) => n'.beq n && decide (tAgg P e = some g) && decide (tSize P e = some z) && (g || z.beq 1) && okX x x' && okX i i'
    | none => false
  | .fd g off n x, .field t x' f => match tFld P t f with
    | some (off', ft) => off'.beq off && decide (tAgg P ft = some g) && decide (tSize P ft = some n) && (g || n.beq 1) && okX x x'
    | none => false
  | .ex i x, .extract x' j => i.beq j && okX x x'
  | .mkf f cs, .makeFunc (.func f') first os => f'.beq f && first.size.beq 0 && okXs cs os.toList
  | .mki t x, .makeInterface t' x' => t'.beq t && P.concrete t && okX x x'
  | .msp z v n c, .makeSlice t n' c' => match tSl P t with
    | some e => match tZero P e with
      | some zv => decide (tSize P e = some z) && !z.beq 0 && okCs (cells v) zv.cells.toList && (cells v).length.beq z && decide (P.bytesOf e ≤ 65536) && okX n n' && okX c c'
      | none => false
    | none => false
  | .msm z v n c, .makeSlice t n' c' => match tSl P t with
    | some e => match tZero P e with
      | some zv => decide (tSize P e = some z) && !z.beq 0 && okCs (cells v) zv.cells.toList && (cells v).length.beq z && decide (P.bytesOf e ≤ 65536) && okX n n' && okX c c'
      | none => false
    | none => false
  | .cl f xs, .call ⟨.value (.func f'), os, _⟩ => f'.beq f && okXs xs os.toList
  | .cv x xs, .call ⟨.value x', os, _⟩ => okXs xs os.toList && okX x x'
  | .lens x, .call ⟨.builtin .len, os, ts⟩ => match os.toList, ts.toList with
    | [x'], t :: _ => tStr P t && okX x x'
    | _, _ => false
  | .lenl x, .call ⟨.builtin .len, os, ts⟩ => match os.toList, ts.toList with
    | [x'], t :: _ => (tSl P t).isSome && okX x x'
    | _, _ => false
  | .min x y, .call ⟨.builtin .min, os, _⟩ => match os.toList with
    | [x', y'] => okX x x' && okX y y'
    | _ => false
  | .max x y, .call ⟨.builtin .max, os, _⟩ => match os.toList with
    | [x', y'] => okX x x' && okX y y'
    | _ => false
  | .app g z x y, .call ⟨.builtin .append, os, ts⟩ => match os.toList, ts.toList with
    | [x', y'], [t0, t1] => match tSl P t0 with
      | some e => match tZero P e with
        | some zv => tNoInt P t1 && decide (tSize P e = some z) && !z.beq 0 && (g || z.beq 1) && zv.cells.size.beq z && decide (P.bytesOf e ≤ 65536) && okX x x' && okX y y'
        | none => false
      | none => false
    | _, _ => false
  | .cpy z x y, .call ⟨.builtin .copy, os, ts⟩ => match os.toList, ts.toList with
    | [x', y'], [t0, t1] => match tSl P t0 with
      | some e => decide (tSize P e = some z) && !z.beq 0 && okX x x' && okX y y'
      | none => false
    | _, _ => false
  | .no, _ => true
  | _, _ => false
theorem arr1 {α : Type} {l : Array α} {x : α} (h : l.toList = [x]) : l = #[x] := by apply Array.ext'; simpa using h
theorem arr2 {α : Type} {l : Array α} {x y : α} (h : l.toList = [x, y]) : l = #[x, y] := by apply Array.ext'; simpa using h
theorem nb {z : Nat} (h : (!z.beq 0) = true) : z.beq 0 = false := by simpa using h
theorem gb {g : Bool} {z : Nat} (h : (g || z.beq 1) = true) : g = true ∨ z = 1 := by
  cases g
  · right; exact Nat.eq_of_beq_eq_true (by simpa using h)
  · exact .inl rfl
theorem op_sound {call : Call} (hcall : CallOk P N call) (s : Op) (hok : okOp P s o.op = true) (hs : SRel Γ σ a.tmps) (hh : HRel Γ h w N) (hN : N ≤ w.heap.size)
    (hk : step call σ h s K = some r) (hc : Cont Γ w N K r a o.dst next) : o.wp P a w next Q := by
  generalize ho : o.op = g at hok
  unfold okOp at hok
  split at hok
  · exact sd_mov _ _ (.inl ho) hok hs hh hk hc
  · exact sd_mov _ _ (.inr ho) hok hs hh hk hc
  · simp only [Bool.and_eq_true] at hok
    exact sd_pick _ _ _ _ _ _ ho hok.1.1 hok.1.2 hok.2 hs hh hk hc
  · split at hok
    · rename_i zv hz; exact sd_alloc _ _ ho zv hz hok hh hN hk hc
    · cases hok
  · simp only [Bool.and_eq_true] at hok
    exact sd_box _ _ _ _ ho (nb hok.1) hok.2 hs hh hN hk hc
  · split at hok
    · rename_i pl zv hpl hz
      simp only [Bool.and_eq_true] at hok
      exact sd_agg _ _ _ _ ho pl zv hpl hz hok.1 hok.2 hs hh hk hc
    · cases hok
  · split at hok
    · rename_i e he
      simp only [Bool.and_eq_true, decide_eq_true_eq] at hok
      exact sd_bsl0 _ _ e _ ho he hok.1 hok.2 hh hk hc
    · cases hok
  · split at hok
    · rename_i e he
      split at hok
      · rename_i zv hzv
        simp only [Bool.and_eq_true, decide_eq_true_eq] at hok
        obtain ⟨⟨⟨⟨⟨⟨k1, k2⟩, k3⟩, k4⟩, k5⟩, k6⟩, k7⟩ := hok
        exact sd_bsl _ _ _ e _ _ ho he k1 zv hzv (nb k3) (Nat.eq_of_beq_eq_true k2) (Nat.eq_of_beq_eq_true k4) k5 (fun e => by rw [bt e] at k6; cases k6) k7 hs hh hk hc
      · cases hok
    · cases hok
  · simp only [Bool.and_eq_true, decide_eq_true_eq] at hok
    exact sd_ld _ _ _ _ _ ho hok.1.1.1 hok.1.1.2 (gb hok.1.2) hok.2 hs hh hk hc
  · simp only [Bool.and_eq_true, decide_eq_true_eq] at hok
    exact sd_st _ _ _ _ _ _ ho hok.1.1.1 (nb hok.1.1.2) hok.1.2 hok.2 hs hh hk hc
  · exact sd_nil _ _ ho hok hs hh hk hc
  · split at hok
    · rename_i off' ft hf
      split at hok
      · rename_i n hn
        simp only [Bool.and_eq_true] at hok
        have := Nat.eq_of_beq_eq_true hok.1.1
        subst this
        exact sd_fa _ _ _ _ _ ho ft hf n hn (fun e => by have := nb hok.1.2; rw [bt e] at this; cases this) hok.2 hs hh hk hc
      · cases hok
    · cases hok
  · simp only [Bool.and_eq_true] at hok
    exact sd_bi _ _ _ _ _ _ _ _ ho hok.1.1 hok.1.2 hok.2 hs hh hk hc
  · simp only [Bool.and_eq_true] at hok
    exact sd_sh _ _ _ _ _ _ _ _ ho hok.1.1 hok.1.2 hok.2 hs hh hk hc
  · simp only [Bool.and_eq_true] at hok
    exact sd_cm _ _ _ _ _ _ _ _ ho hok.1.1 hok.1.2 hok.2 hs hh hk hc
  · simp only [Bool.and_eq_true] at hok
    exact sd_ce _ _ _ _ _ _ _ _ _ ho (okNe_eq hok.1.1.1) hok.1.1.2 hok.1.2 hok.2 hs hh hk hc
  · simp only [Bool.and_eq_true] at hok
    exact sd_cea _ _ _ _ _ _ _ _ _ ho (okNe_eq hok.1.1.1) hok.1.1.2 hok.1.2 hok.2 hs hh hk hc
  · simp only [Bool.and_eq_true] at hok
    exact sd_adds _ _ _ _ _ _ ho hok.1 hok.2 hs hh hk hc
  · simp only [Bool.and_eq_true] at hok
    exact sd_css _ _ _ _ ho hok.1.1 (tStr_some hok.1.2) hok.2 hs hh hk hc
  · simp only [Bool.and_eq_true, decide_eq_true_eq] at hok
    exact sd_cvi _ _ _ _ _ ho hok.1.1 (tInt_some hok.1.2) hok.2 hs hh hk hc
  · split at hok
    · rename_i e he
      simp only [Bool.and_eq_true, decide_eq_true_eq] at hok
      exact sd_cvs _ _ e _ _ ho he hok.1.1 hok.1.2 hok.2 hs hh hk hc
    · cases hok
  · split at hok
    · rename_i e he
      simp only [Bool.and_eq_true, decide_eq_true_eq] at hok
      exact sd_cvb _ _ e _ _ ho hok.1.2 he hok.1.1 hok.2 hs hh hN hk hc
    · cases hok
  · exact sd_not _ _ _ ho hok hs hh hk hc
  · exact sd_neg _ _ _ ho hok hs hh hk hc
  · exact sd_cpl _ _ _ ho hok hs hh hk hc
  · simp only [Bool.and_eq_true] at hok
    exact sd_sls _ _ _ _ _ _ _ ho hok.1.1.1 hok.1.1.2 hok.1.2 hok.2 hs hh hk hc
  · split at hok
    · rename_i e he
      simp only [Bool.and_eq_true, decide_eq_true_eq] at hok
      exact sd_sll _ e _ _ _ _ _ _ _ ho he hok.1.1.1 hok.1.1.2 hok.1.2 hok.2 hs hh hk hc
    · cases hok
  · split at hok
    · rename_i e he
      simp only [Bool.and_eq_true, decide_eq_true_eq] at hok
      exact sd_slx _ e _ _ _ _ _ _ _ _ _ ho he hok.1.1.1.1 hok.1.1.1.2 hok.1.1.2 hok.1.2 hok.2 hs hh hk hc
    · cases hok
  · simp only [Bool.and_eq_true] at hok
    obtain ⟨⟨⟨k1, k2⟩, k3⟩, k4⟩ := hok
    split at k1
    · rename_i n' e he
      simp only [Bool.and_eq_true, decide_eq_true_eq] at k1
      have := Nat.eq_of_beq_eq_true k1.1
      subst this
      exact sd_sla _ _ _ 0 e _ _ _ _ _ _ ho (.inr he) k1.2 k2 k3 k4 hs hh hk hc
    · split at k1
      · rename_i arr hu
        split at k1
        · rename_i n' e he
          simp only [Bool.and_eq_true, decide_eq_true_eq] at k1
          have := Nat.eq_of_beq_eq_true k1.1
          subst this
          exact sd_sla _ _ _ arr e _ _ _ _ _ _ ho (.inl ⟨hu, he⟩) k1.2 k2 k3 k4 hs hh hk hc
        · cases k1
      · cases k1
  · split at hok
    · rename_i n' e he
      simp only [Bool.and_eq_true, decide_eq_true_eq] at hok
      have := Nat.eq_of_beq_eq_true hok.1.1.1
      subst this
      exact sd_ixp _ _ _ e _ _ _ _ ho he hok.1.1.2 hok.1.2 hok.2 hs hh hk hc
    · cases hok
  · split at hok
    · rename_i e he
      simp only [Bool.and_eq_true, decide_eq_true_eq] at hok
      exact sd_ixs _ _ e _ _ _ _ ho he hok.1.1 hok.1.2 hok.2 hs hh hk hc
    · cases hok
  · simp only [Bool.and_eq_true] at hok
    exact sd_ixt _ _ _ _ _ ho hok.1.1 hok.1.2 hok.2 hs hh hk hc
  · split at hok
    · rename_i n' e he
      simp only [Bool.and_eq_true, decide_eq_true_eq] at hok
      obtain ⟨⟨⟨⟨⟨k1, k2⟩, k3⟩, k4⟩, k5⟩, k6⟩ := hok
      have := Nat.eq_of_beq_eq_true k1
      subst this
      exact sd_ixa _ _ _ _ e _ _ _ _ ho he k2 k3 (gb k4) k5 k6 hs hh hk hc
    · cases hok
  · split at hok
    · rename_i off' ft hf
      simp only [Bool.and_eq_true, decide_eq_true_eq] at hok
      obtain ⟨⟨⟨⟨k1, k2⟩, k3⟩, k4⟩, k5⟩ := hok
      have := Nat.eq_of_beq_eq_true k1
      subst this
      exact sd_fd _ _ _ _ _ _ _ ho ft hf k2 k3 (gb k4) k5 hs hh hk hc
    · cases hok
  · simp only [Bool.and_eq_true] at hok
    have := Nat.eq_of_beq_eq_true hok.1
    subst this
    exact sd_ex _ _ _ ho hok.2 hs hh hk hc
  · simp only [Bool.and_eq_true] at hok
    obtain ⟨⟨k1, k2⟩, k3⟩ := hok
    have := Nat.eq_of_beq_eq_true k1
    subst this
    have h0 := Nat.eq_of_beq_eq_true k2
    have h00 := Array.eq_empty_of_size_eq_zero h0
    rw [h00] at ho
    exact sd_mkf _ _ _ ho k3 hs hh hk hc
  · simp only [Bool.and_eq_true] at hok
    have := Nat.eq_of_beq_eq_true hok.1.1
    subst this
    exact sd_mki _ _ _ ho hok.1.2 hok.2 hs hh hk hc
  · split at hok
    · rename_i e he
      split at hok
      · rename_i zv hzv
        simp only [Bool.and_eq_true, decide_eq_true_eq] at hok
        obtain ⟨⟨⟨⟨⟨⟨k1, k2⟩, k3⟩, k4⟩, k5⟩, k6⟩, k7⟩ := hok
        exact sd_msp _ _ _ e _ _ _ _ ho he k1 zv hzv (nb k2) k3 (Nat.eq_of_beq_eq_true k4) k5 k6 k7 hs hh hk hc
      · cases hok
    · cases hok
  · split at hok
    · rename_i e he
      split at hok
      · rename_i zv hzv
        simp only [Bool.and_eq_true, decide_eq_true_eq] at hok
        obtain ⟨⟨⟨⟨⟨⟨k1, k2⟩, k3⟩, k4⟩, k5⟩, k6⟩, k7⟩ := hok
        exact sd_msm _ _ _ e _ _ _ _ ho he k1 zv hzv (nb k2) k3 (Nat.eq_of_beq_eq_true k4) k5 k6 k7 hs hh hN hk hc
      · cases hok
    · cases hok
  · simp only [Bool.and_eq_true] at hok
    have := Nat.eq_of_beq_eq_true hok.1
    subst this
    exact sd_cl hcall _ _ _ _ ho hok.2 hs hh hN hk hc
  · simp only [Bool.and_eq_true] at hok
    exact sd_cv hcall _ _ _ _ _ ho hok.1 hok.2 hs hh hN hk hc
  · split at hok
    · rename_i os ts x' t tl ho1 ht1
      simp only [Bool.and_eq_true] at hok
      have e1 := arr1 ho1
      subst e1
      exact sd_lens _ t _ _ ho (by rw [← Array.getElem?_toList, ht1]; rfl) hok.1 hok.2 hs hh hk hc
    · cases hok
  · split at hok
    · rename_i os ts x' t tl ho1 ht1
      simp only [Bool.and_eq_true] at hok
      have e1 := arr1 ho1
      subst e1
      obtain ⟨e, he⟩ := Option.isSome_iff_exists.1 hok.1
      exact sd_lenl _ t e _ _ ho (by rw [← Array.getElem?_toList, ht1]; rfl) he hok.2 hs hh hk hc
    · cases hok
  · split at hok
    · rename_i os x' y' ho1
      simp only [Bool.and_eq_true] at hok
      have e1 := arr2 ho1
      subst e1
      exact sd_min _ _ _ _ _ ho hok.1 hok.2 hs hh hk hc
    · cases hok
  · split at hok
    · rename_i os x' y' ho1
      simp only [Bool.and_eq_true] at hok
      have e1 := arr2 ho1
      subst e1
      exact sd_max _ _ _ _ _ ho hok.1 hok.2 hs hh hk hc
    · cases hok
  · split at hok
    · rename_i os ts x' y' t0 t1 ho1 ht1
      have e1 := arr2 ho1
      have e2 := arr2 ht1
      subst e1 e2
      split at hok
      · rename_i e he
        split at hok
        · rename_i zv hzv
          simp only [Bool.and_eq_true, decide_eq_true_eq] at hok
          obtain ⟨⟨⟨⟨⟨⟨⟨k1, k2⟩, k3⟩, k4⟩, k5⟩, k6⟩, k7⟩, k8⟩ := hok
          exact sd_app _ _ t0 t1 e _ _ _ _ ho he k1 k2 (nb k3) (gb k4) zv hzv (Nat.eq_of_beq_eq_true k5) k6 k7 k8 hs hh hN hk hc
        · cases hok
      · cases hok
    · cases hok
  · split at hok
    · rename_i os ts x' y' t0 t1 ho1 ht1
      have e1 := arr2 ho1
      have e2 := arr2 ht1
      subst e1 e2
      split at hok
      · rename_i e he
        simp only [Bool.and_eq_true, decide_eq_true_eq] at hok
        obtain ⟨⟨⟨k1, k2⟩, k3⟩, k4⟩ := hok
        exact sd_cpy _ t0 t1 e _ _ _ _ ho he k1 (nb k2) k3 k4 hs hh hk hc
      · cases hok
    · cases hok
  · cases hk
  · cases hok
end Go.AM
