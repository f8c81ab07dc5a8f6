import Derived.Test.YtfpkdeokpomocaaAMPure
set_option linter.constructorNameAsVariable false
set_option linter.unusedVariables false
set_option linter.unusedSimpArgs false
set_option linter.unusedVariables false
set_option linter.unusedSimpArgs false
namespace Go.AM
open Go
variable {P : Program} {N : Nat} {Γ : Gam} {h : Heap} {w : World} {σ : Slots} {a : Act} {o : GOper} {next : Act → World → Prop}
  {Q : _root_.Go.Exit → Act → World → Prop} {r : Val × Heap} {K : Val → Heap → R}
theorem sd_sh (op : IOp) (gop : BinOp) (t t' : TypeId) (x y : X) (x' y' : Operand) (ho : o.op = .binOp gop t x' y' t') (hop : okShop op gop = true)
    (h1 : okX x x' = true) (h2 : okX y y' = true) (hs : SRel Γ σ a.tmps) (hh : HRel Γ h w N)
    (hk : shC op (ev σ x) (ev σ y) (fun v => K v h) = some r) (hc : Cont Γ w N K r a o.dst next) : o.wp P a w next Q := by
  unfold shC at hk
  split at hk
  · rename_i k p k2 q ex ey
    split at hk
    · rename_i n hn
      have e1 := oi (okX_sound hs h1) ex
      have e2 := oi (okX_sound hs h2) ey
      refine wp_pure hc hh (x := .int k n) ?_ (VRel.int k n).u hk
      cases op <;> cases gop <;> simp [okShop] at hop <;> simp [iop] at hn
      all_goals
        cases hq : (decide (q < 0)) with
        | true => rw [hq] at hn; cases hn
        | false =>
          rw [hq] at hn
          have hq' : ¬ q < 0 := of_decide_eq_false hq
          simp at hn
          simp [execOp, ho, e1, e2, eqGuard, binOp, _root_.Go.Op.shift, hq', hn]
    · cases hk
  · cases hk
def okCop : COp → BinOp → Bool
  | .eq, .eql | .ne, .neq | .lt, .lss | .le, .leq | .gt, .gtr | .ge, .geq => true
  | _, _ => false
theorem eqB_iff : ∀ (x y : List UInt8), eqB x y = (x == y)
  | [], [] => rfl
  | [], _ :: _ => rfl
  | _ :: _, [] => rfl
  | a :: x, b :: y => by
    have hab : a.toNat.beq b.toNat = (a == b) := by
      cases hb : a.toNat.beq b.toNat with
      | true => have := UInt8.toNat_inj.1 (Nat.eq_of_beq_eq_true hb); simp [this]
      | false =>
        symm
        rw [beq_eq_false_iff_ne]
        intro e
        subst e
        rw [Nat.beq_refl] at hb; cases hb
    rw [eqB, eqB_iff x y, hab]; rfl
theorem ltB_iff : ∀ (x y : List UInt8), ltB x y = _root_.Go.Op.bytesLess x y
  | x, [] => by cases x <;> rfl
  | [], _ :: _ => rfl
  | a :: x, b :: y => by
    have hab : a.toNat.beq b.toNat = (a == b) := by
      cases hb : a.toNat.beq b.toNat with
      | true => have := UInt8.toNat_inj.1 (Nat.eq_of_beq_eq_true hb); simp [this]
      | false =>
        symm
        rw [beq_eq_false_iff_ne]
        intro e
        subst e
        rw [Nat.beq_refl] at hb; cases hb
    have hlt : a.toNat.blt b.toNat = decide (a < b) := by
      rw [Bool.eq_iff_iff, decide_eq_true_iff, UInt8.lt_iff_toNat_lt, Nat.blt_eq]
    simp only [ltB, ltB_iff x y, hab, hlt, _root_.Go.Op.bytesLess]
theorem toList_ba (s : ByteArray) : s.toList = s.data.toList := by
  simp [ByteArray.toList_eq]
theorem sd_cm (op : COp) (gop : BinOp) (t t' : TypeId) (x y : X) (x' y' : Operand) (ho : o.op = .binOp gop t x' y' t') (hop : okCop op gop = true)
    (h1 : okX x x' = true) (h2 : okX y y' = true) (hs : SRel Γ σ a.tmps) (hh : HRel Γ h w N)
    (hk : cmC op (ev σ x) (ev σ y) (fun v => K v h) = some r) (hc : Cont Γ w N K r a o.dst next) : o.wp P a w next Q := by
  unfold cmC at hk
  split at hk
  · rename_i k p k2 q ex ey
    cases hb : k.toNat.beq k2.toNat with
    | false => rw [hb] at hk; cases hk
    | true =>
      rw [hb, cond_true] at hk
      have hkk := kind_eq hb
      subst hkk
      have e1 := oi (okX_sound hs h1) ex
      have e2 := oi (okX_sound hs h2) ey
      refine wp_pure hc hh (x := .bool (icmp op p q)) ?_ (VRel.bool _).u hk
      cases op <;> cases gop <;> simp [okCop] at hop
      all_goals simp [execOp, ho, e1, e2, eqGuard, binOp, _root_.Go.Op.intCmp, icmp]
  · rename_i p q ex ey
    obtain ⟨s1, e1, rfl⟩ := os_ (okX_sound hs h1) ex
    obtain ⟨s2, e2, rfl⟩ := os_ (okX_sound hs h2) ey
    refine wp_pure hc hh (x := .bool (scmp op s1.data.toList s2.data.toList)) ?_ (VRel.bool _).u hk
    cases op <;> cases gop <;> simp [okCop] at hop
    all_goals simp [execOp, ho, e1, e2, eqGuard, binOp, _root_.Go.Op.stringOp, scmp, eqB_iff, ltB_iff, toList_ba]
  · cases hk
theorem sd_adds (t t' : TypeId) (x y : X) (x' y' : Operand) (ho : o.op = .binOp .add t x' y' t')
    (h1 : okX x x' = true) (h2 : okX y y' = true) (hs : SRel Γ σ a.tmps) (hh : HRel Γ h w N)
    (hk : addSC (ev σ x) (ev σ y) (fun v => K v h) = some r) (hc : Cont Γ w N K r a o.dst next) : o.wp P a w next Q := by
  unfold addSC at hk
  split at hk
  · rename_i p q ex ey
    obtain ⟨s1, e1, rfl⟩ := os_ (okX_sound hs h1) ex
    obtain ⟨s2, e2, rfl⟩ := os_ (okX_sound hs h2) ey
    cases hb : decide (s1.data.toList.length + s2.data.toList.length ≤ 4611686018427387904) with
    | false => rw [hb] at hk; cases hk
    | true =>
      rw [hb, cond_true] at hk
      have hl := of_decide_eq_true hb
      refine wp_pure hc hh (x := .string (s1 ++ s2)) ?_ (VRel.str _ _ (by simp)).u hk
      have hsz : ¬ (((s1.size + s2.size : Nat) : Int) > IntKind.i64.max) := by
        have a1 : s1.data.toList.length = s1.size := Array.length_toList
        have a2 : s2.data.toList.length = s2.size := Array.length_toList
        have hm : IntKind.i64.max = 9223372036854775807 := by decide
        rw [a1, a2] at hl
        rw [hm]
        omega
      simp only [execOp, ho, e1, e2, eqGuard, binOp, _root_.Go.Op.stringOp, if_neg hsz]
      simp
  · cases hk
theorem sd_not (t : TypeId) (x : X) (x' : Operand) (ho : o.op = .unOp .not t x') (h1 : okX x x' = true) (hs : SRel Γ σ a.tmps) (hh : HRel Γ h w N)
    (hk : notC (ev σ x) (fun v => K v h) = some r) (hc : Cont Γ w N K r a o.dst next) : o.wp P a w next Q := by
  unfold notC at hk
  split at hk
  · rename_i b e
    have e1 := ob (okX_sound hs h1) e
    exact wp_pure hc hh (x := .bool (!b)) (by simp [execOp, ho, e1, _root_.Go.Op.unary]) (VRel.bool _).u hk
  · cases hk
theorem sd_neg (t : TypeId) (x : X) (x' : Operand) (ho : o.op = .unOp .neg t x') (h1 : okX x x' = true) (hs : SRel Γ σ a.tmps) (hh : HRel Γ h w N)
    (hk : negC (ev σ x) (fun v => K v h) = some r) (hc : Cont Γ w N K r a o.dst next) : o.wp P a w next Q := by
  unfold negC at hk
  split at hk
  · rename_i k n e
    have e1 := oi (okX_sound hs h1) e
    exact wp_pure hc hh (x := .int k (k.wrap (0 - n))) (by simp [execOp, ho, e1, _root_.Go.Op.unary, _root_.Go.Op.intArith]) (VRel.int _ _).u hk
  · cases hk
theorem sd_cpl (t : TypeId) (x : X) (x' : Operand) (ho : o.op = .unOp .xor t x') (h1 : okX x x' = true) (hs : SRel Γ σ a.tmps) (hh : HRel Γ h w N)
    (hk : cplC (ev σ x) (fun v => K v h) = some r) (hc : Cont Γ w N K r a o.dst next) : o.wp P a w next Q := by
  unfold cplC at hk
  split at hk
  · rename_i k n e
    have e1 := oi (okX_sound hs h1) e
    exact wp_pure hc hh (by simp [execOp, ho, e1, _root_.Go.Op.unary, _root_.Go.Op.intBits]) (VRel.int _ _).u hk
  · cases hk
theorem sd_cvi (k : IntKind) (s t : TypeId) (x : X) (x' : Operand) (ho : o.op = .convert s t x') (hs' : (P.underlying s).isSome = true) (ht : P.underlying t = some (.int k)) (h1 : okX x x' = true)
    (hs : SRel Γ σ a.tmps) (hh : HRel Γ h w N) (hk : cviC k (ev σ x) (fun v => K v h) = some r) (hc : Cont Γ w N K r a o.dst next) : o.wp P a w next Q := by
  unfold cviC at hk
  split at hk
  · rename_i j n e
    have e1 := oi (okX_sound hs h1) e
    obtain ⟨d, hd⟩ := Option.isSome_iff_exists.1 hs'
    refine wp_pure hc hh (x := .int k (k.wrap n)) ?_ (VRel.int _ _).u hk
    simp [execOp, ho, e1, convert, run_underlying hd, run_underlying ht, Conv.intToInt]
  · cases hk
theorem sd_css (s t : TypeId) (x : X) (x' : Operand) (ho : o.op = .convert s t x') (hs' : (P.underlying s).isSome = true) (ht : P.underlying t = some .string) (h1 : okX x x' = true)
    (hs : SRel Γ σ a.tmps) (hh : HRel Γ h w N) (hk : cssC (ev σ x) (fun v => K v h) = some r) (hc : Cont Γ w N K r a o.dst next) : o.wp P a w next Q := by
  unfold cssC at hk
  split at hk
  · rename_i l e
    obtain ⟨s1, e1, rfl⟩ := os_ (okX_sound hs h1) e
    obtain ⟨d, hd⟩ := Option.isSome_iff_exists.1 hs'
    refine wp_pure hc hh (x := .string s1) ?_ (VRel.str _ _ rfl).u hk
    simp [execOp, ho, e1, convert, run_underlying hd, run_underlying ht]
  · cases hk
theorem sd_min (at_ : Array TypeId) (x y : X) (x' y' : Operand) (ho : o.op = .call { callee := .builtin .min, args := #[x', y'], argTypes := at_ }) (h1 : okX x x' = true) (h2 : okX y y' = true)
    (hs : SRel Γ σ a.tmps) (hh : HRel Γ h w N) (hk : mnC (ev σ x) (ev σ y) (fun v => K v h) = some r) (hc : Cont Γ w N K r a o.dst next) : o.wp P a w next Q := by
  unfold mnC at hk
  split at hk
  · rename_i k p k2 q ex ey
    cases hb : k.toNat.beq k2.toNat with
    | false => rw [hb] at hk; cases hk
    | true =>
      rw [hb, cond_true] at hk
      have hkk := kind_eq hb
      subst hkk
      have e1 := oi (okX_sound hs h1) ex
      have e2 := oi (okX_sound hs h2) ey
      refine wp_pure hc hh ?_ (VRel.int _ _).u hk
      simp only [execOp, ho, resolve, invoke, builtin, Builtin.min_, Sem.run_bind, Sem.run_pure, Result.andThen_ok, List.map_toArray, List.map_cons, List.map_nil, e1, e2, List.foldlM, Builtin.min2, Bool.cond_decide]
  · cases hk
theorem sd_max (at_ : Array TypeId) (x y : X) (x' y' : Operand) (ho : o.op = .call { callee := .builtin .max, args := #[x', y'], argTypes := at_ }) (h1 : okX x x' = true) (h2 : okX y y' = true)
    (hs : SRel Γ σ a.tmps) (hh : HRel Γ h w N) (hk : mxC (ev σ x) (ev σ y) (fun v => K v h) = some r) (hc : Cont Γ w N K r a o.dst next) : o.wp P a w next Q := by
  unfold mxC at hk
  split at hk
  · rename_i k p k2 q ex ey
    cases hb : k.toNat.beq k2.toNat with
    | false => rw [hb] at hk; cases hk
    | true =>
      rw [hb, cond_true] at hk
      have hkk := kind_eq hb
      subst hkk
      have e1 := oi (okX_sound hs h1) ex
      have e2 := oi (okX_sound hs h2) ey
      refine wp_pure hc hh ?_ (VRel.int _ _).u hk
      simp only [execOp, ho, resolve, invoke, builtin, Builtin.max_, Sem.run_bind, Sem.run_pure, Result.andThen_ok, List.map_toArray, List.map_cons, List.map_nil, e1, e2, List.foldlM, Builtin.max2, Bool.cond_decide]
  · cases hk
end Go.AM
