import Derived.Test.YtfpkdeokpomocaaAMOk
set_option linter.constructorNameAsVariable false
set_option linter.unusedVariables false
set_option linter.unusedSimpArgs false
set_option linter.unusedVariables false
set_option linter.unusedSimpArgs false
namespace Go.AM
open Go
variable {P : Program} {N : Nat} {Γ : Gam} {h : Heap} {w : World} {σ : Slots} {a : Act} {o : GOper} {next : Act → World → Prop}
  {Q : _root_.Go.Exit → Act → World → Prop} {r : Val × Heap} {K : Val → Heap → R}
def Cont (Γ : Gam) (w : World) (N : Nat) (K : Val → Heap → R) (r : Val × Heap) (a : Act) (dst : Option Nat) (next : Act → World → Prop) : Prop :=
  ∀ v h' x w' Δ, K v h' = some r → Γ.Le Δ → Frame Γ Δ w w' → HRel Δ h' w' N → URel Δ v x → next (a.put dst x) w'
theorem wp_val {x : Value} {w' : World} (hx : (execOp a.eval o).run P w = .ok (.value x) w') (hn : next (a.put o.dst x) w') : o.wp P a w next Q := by
  unfold _root_.Go.Oper.wp; rw [hx]; exact hn
theorem wp_skp {w' : World} (hx : (execOp a.eval o).run P w = .ok .skip w') (hn : next (a.put o.dst undef) w') : o.wp P a w next Q := by
  unfold _root_.Go.Oper.wp; rw [hx]; exact hn
theorem wp_pure {x : Value} {v : Val} (hc : Cont Γ w N K r a o.dst next) (hh : HRel Γ h w N) (hx : (execOp a.eval o).run P w = .ok (.value x) w)
    (hv : URel Γ v x) (hk : K v h = some r) : o.wp P a w next Q :=
  wp_val hx (hc v h x w Γ hk (.refl Γ) (.refl Γ w) hh hv)
theorem oi {v : Val} {x : Value} (h : URel Γ v x) {k : IntKind} {n : Int} (e : v = .int k n) : x = .int k n := by
  subst e; cases h (by simp); rfl
theorem ob {v : Val} {x : Value} (h : URel Γ v x) {b : Bool} (e : v = .bool b) : x = .bool b := by
  subst e; cases h (by simp); rfl
theorem os_ {v : Val} {x : Value} (h : URel Γ v x) {l : List UInt8} (e : v = .str l) : ∃ s : ByteArray, x = .string s ∧ s.data.toList = l := by
  subst e; cases h (by simp); exact ⟨_, rfl, by assumption⟩
theorem sd_mov (x : X) (y : Operand) (ho : o.op = .move y ∨ o.op = .assign y) (hok : okX x y = true) (hs : SRel Γ σ a.tmps) (hh : HRel Γ h w N)
    (hk : K (ev σ x) h = some r) (hc : Cont Γ w N K r a o.dst next) : o.wp P a w next Q := by
  refine wp_pure hc hh (x := a.eval y) ?_ (okX_sound hs hok) hk
  rcases ho with ho | ho <;> simp [execOp, ho]
theorem sd_pick (x y z : X) (x' y' z' : Operand) (ho : o.op = .pick x' y' z') (h1 : okX x x' = true) (h2 : okX y y' = true) (h3 : okX z z' = true) (hs : SRel Γ σ a.tmps) (hh : HRel Γ h w N)
    (hk : pickC (ev σ x) (ev σ y) (ev σ z) (fun v => K v h) = some r) (hc : Cont Γ w N K r a o.dst next) : o.wp P a w next Q := by
  unfold pickC at hk
  split at hk
  · rename_i c hcx
    have e1 := ob (okX_sound hs h1) hcx
    refine wp_pure hc hh (x := if c then a.eval y' else a.eval z') ?_ ?_ hk
    · simp [execOp, ho, e1, asBool]
    · cases c
      · exact okX_sound hs h3
      · exact okX_sound hs h2
  · cases hk
theorem VRel.ptr_inv {b q : Nat} {x : Value} (h : VRel Γ (.ptr b q) x) : ∃ B, x = .pointer (some ⟨B, q, none⟩) ∧ Γ.bl b = some B := by
  cases h; exact ⟨_, rfl, by assumption⟩
theorem VRel.ep_inv {cs : List Val} {x : Value} (h : VRel Γ (.ep cs) x) : ∃ (B q : Nat) (f : Nat → Value), x = .pointer (some ⟨B, q, none⟩) ∧ (∀ i, i < cs.length → Γ.pr B (q + i) = some (f i) ∧ (f i).oneCell' = true) ∧
    ∀ i, i < cs.length → VRel Γ (cs.getD i .unk) (f i) := by
  cases h with
  | ep cs B q f h1 h2 => exact ⟨B, q, f, rfl, h1, h2⟩
theorem VRel.func_inv {f : Nat} {cs : List Val} {x : Value} (h : VRel Γ (.func f cs) x) : ∃ vs, x = .func (.func f) #[] vs ∧ ARel Γ cs vs.toList := by
  cases h with
  | func f cs vs hl h1 => exact ⟨vs, rfl, by simpa using hl, fun i hi hne => by simpa using h1 i hi hne⟩
theorem VRel.tup_inv {cs : List Val} {x : Value} (h : VRel Γ (.tup cs) x) : ∃ vs, x = .tuple vs ∧ ARel Γ cs vs.toList := by
  cases h with
  | tup cs vs hl h1 => exact ⟨vs, rfl, by simpa using hl, fun i hi hne => by simpa using h1 i hi hne⟩
theorem VRel.agg_inv {cs : List Val} {x : Value} (h : VRel Γ (.agg cs) x) : ∃ vs, x = .agg vs ∧ CRel Γ cs vs.toList := by
  cases h with
  | agg cs vs hl h1 h2 => exact ⟨vs, rfl, by simpa using hl, fun i hi => by simpa using h1 i hi, fun i hi => by simpa using h2 i hi⟩
theorem VRel.ms_inv {b q n c z : Nat} {x : Value} (h : VRel Γ (.ms b q n c z) x) : ∃ B c', x = .slice (some ⟨B, q, none⟩) n c' ∧ Γ.bl b = some B ∧ c ≤ c' := by
  cases h; exact ⟨_, _, rfl, by assumption, by assumption⟩
theorem VRel.map_inv {b : Nat} {x : Value} (h : VRel Γ (.map b) x) : ∃ B, x = .map (some B) ∧ Γ.bl b = some B := by
  cases h; exact ⟨_, rfl, by assumption⟩
theorem VRel.iface_inv {t : Nat} {v : Val} {x : Value} (h : VRel Γ (.iface t v) x) : ∃ y, x = .iface t y ∧ VRel Γ v y := by
  cases h; exact ⟨_, rfl, by assumption⟩
theorem VRel.nls_inv {z : Nat} {l : List Val} {x : Value} (h : VRel Γ (.sl .nl z l) x) : l = [] ∧ x = .slice none 0 0 := by
  cases h with
  | sl0 w z c a h => rcases h with h | h
                     · cases h
                     · cases h.1
  | nls z => exact ⟨rfl, rfl⟩
  | sl w z l B q c f hw => exact hw.elim
theorem sd_nil (x : X) (x' : Operand) (ho : o.op = .nilCheck x') (h1 : okX x x' = true) (hs : SRel Γ σ a.tmps) (hh : HRel Γ h w N)
    (hk : nilC (ev σ x) (fun v => K v h) = some r) (hc : Cont Γ w N K r a o.dst next) : o.wp P a w next Q := by
  have hx := okX_sound hs h1
  unfold nilC at hk
  split at hk
  · rename_i b q e
    rw [e] at hx
    obtain ⟨B, he, hB⟩ := (hx (by simp)).ptr_inv
    exact wp_pure hc hh (x := a.eval x') (by simp [execOp, ho, he]) hx hk
  · rename_i cs e
    rw [e] at hx
    obtain ⟨B, q, f, he, -⟩ := (hx (by simp)).ep_inv
    exact wp_pure hc hh (x := a.eval x') (by simp [execOp, ho, he]) hx hk
  · rename_i f cs e
    rw [e] at hx
    obtain ⟨vs, he, -⟩ := (hx (by simp)).func_inv
    exact wp_pure hc hh (x := a.eval x') (by simp [execOp, ho, he]) hx hk
  · cases hk
theorem kind_eq {j k : IntKind} (h : j.toNat.beq k.toNat = true) : j = k := by cases j <;> cases k <;> simp [IntKind.toNat] at h <;> rfl
def okIop : IOp → BinOp → Bool
  | .add, .add | .sub, .sub | .mul, .mul | .quo, .quo | .rem, .rem | .and, .and | .or, .or | .xor, .xor | .andNot, .andNot => true
  | _, _ => false
def okShop : IOp → BinOp → Bool
  | .shl, .shl | .shr, .shr => true
  | _, _ => false
theorem sd_bi (op : IOp) (gop : BinOp) (t t' : TypeId) (x y : X) (x' y' : Operand) (ho : o.op = .binOp gop t x' y' t') (hop : okIop op gop = true)
    (h1 : okX x x' = true) (h2 : okX y y' = true) (hs : SRel Γ σ a.tmps) (hh : HRel Γ h w N)
    (hk : biC op (ev σ x) (ev σ y) (fun v => K v h) = some r) (hc : Cont Γ w N K r a o.dst next) : o.wp P a w next Q := by
  unfold biC at hk
  split at hk
  · rename_i k p k2 q ex ey
    cases hb : k.toNat.beq k2.toNat with
    | false => rw [hb] at hk; cases hk
    | true =>
      rw [hb, cond_true] at hk
      have hkk := kind_eq hb
      subst hkk
      split at hk
      · rename_i n hn
        have e1 := oi (okX_sound hs h1) ex
        have e2 := oi (okX_sound hs h2) ey
        refine wp_pure hc hh (x := .int k n) ?_ (VRel.int k n).u hk
        cases op <;> cases gop <;> simp [okIop] at hop <;> simp [iop] at hn
        all_goals first
          | (simp [execOp, ho, e1, e2, eqGuard, binOp, _root_.Go.Op.intArith, _root_.Go.Op.intBits, hn]; done)
          | (cases hq : (q == 0) with
             | true => rw [hq] at hn; cases hn
             | false =>
               rw [hq] at hn
               simp at hq hn
               simp [execOp, ho, e1, e2, eqGuard, binOp, _root_.Go.Op.intDiv, hq, hn])
      · cases hk
  · cases hk
end Go.AM
