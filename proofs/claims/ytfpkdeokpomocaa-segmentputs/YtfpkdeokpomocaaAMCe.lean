import Derived.Test.YtfpkdeokpomocaaAMEq
set_option linter.constructorNameAsVariable false
set_option linter.unusedVariables false
set_option linter.unusedSimpArgs false
set_option linter.unusedVariables false
set_option linter.unusedSimpArgs false
namespace Go.AM
open Go
variable {P : Program} {N : Nat} {Γ : Gam} {h : Heap} {w : World} {σ : Slots} {a : Act} {o : GOper} {next : Act → World → Prop}
  {Q : _root_.Go.Exit → Act → World → Prop} {r : Val × Heap} {K : Val → Heap → R}
def isCst : Operand → Bool
  | .const _ => true
  | _ => false
def okCea (P : Program) (t : TypeId) (ks : List CK) : Bool :=
  match flatK P 20 t with
  | some k => decide (k.length = ks.length) && (k.zip ks).all (fun x => match x with
      | (.b, .b) | (.i, .i) | (.s, .s) => true
      | _ => false) && !(P.eqGuardType P.depth t) && decide (tAgg P t = some true)
  | none => false
def okCe (P : Program) (t : TypeId) (x y : Operand) (k : CK) : Bool :=
  match P.underlying t, k with
  | some .bool, .b => true
  | some (.pointer _), .p => true
  | some (.slice _), .l => true
  | some (.interface _), .n => isCst x || isCst y
  | some (.func ..), .f => true
  | some (.map ..), .m => true
  | _, _ => false
theorem zip_eq : ∀ {k ks : List CK}, k.length = ks.length → (k.zip ks).all (fun x => match x with
      | (.b, .b) | (.i, .i) | (.s, .s) => true
      | _ => false) = true → k = ks
  | [], [], _, _ => rfl
  | a :: k, b :: ks, hl, h => by
    simp only [List.zip_cons_cons, List.all_cons, Bool.and_eq_true] at h
    have := zip_eq (k := k) (ks := ks) (by simpa using hl) h.2
    subst this
    have h1 := h.1
    cases a <;> cases b <;> simp at h1 <;> rfl
  | [], _ :: _, hl, _ => by simp at hl
  | _ :: _, [], hl, _ => by simp at hl
def refl1 : Value → Bool
  | .bool _ | .pointer _ | .slice .. | .map _ | .func .. | .nilFunc | .iface .. | .nilIface | .agg _ => true
  | _ => false
theorem binOp_eql (t : TypeId) {X Y : Value} (h : refl1 X = true) : binOp .eql t X Y = (do pure (.bool (← _root_.Go.Op.equal t X Y)) : Sem Value) := by
  cases X <;> first | rfl | (simp [refl1] at h; done)
theorem binOp_neq (t : TypeId) {X Y : Value} (h : refl1 X = true) : binOp .neq t X Y = (do pure (.bool (!(← _root_.Go.Op.equal t X Y))) : Sem Value) := by
  cases X <;> first | rfl | (simp [refl1] at h; done)
theorem eq_p0 (d : Nat) {t e : TypeId} (hu : P.underlying t = some (.pointer e)) (b : Option Addr) : (_root_.Go.Op.equalIn (d + 1) t (.pointer none) (.pointer b)).run P w = .ok b.isNone w := by
  simp [_root_.Go.Op.equalIn, run_underlying hu]
theorem eq_p1 (d : Nat) {t e : TypeId} (hu : P.underlying t = some (.pointer e)) (b : Addr) : (_root_.Go.Op.equalIn (d + 1) t (.pointer (some b)) (.pointer none)).run P w = .ok false w := by
  simp [_root_.Go.Op.equalIn, run_underlying hu]
theorem eq_l (d : Nat) {t e : TypeId} (hu : P.underlying t = some (.slice e)) (b : Option Addr) (n c : Nat) : (_root_.Go.Op.equalIn (d + 1) t (.slice b n c) (.slice none 0 0)).run P w = .ok b.isNone w := by
  cases b <;> simp [_root_.Go.Op.equalIn, run_underlying hu]
theorem eq_n0 (d : Nat) {t : TypeId} {e} (hu : P.underlying t = some (.interface e)) : (_root_.Go.Op.equalIn (d + 1) t .nilIface .nilIface).run P w = .ok true w := by
  simp [_root_.Go.Op.equalIn, run_underlying hu]
theorem eq_n1 (d : Nat) {t : TypeId} {e} (hu : P.underlying t = some (.interface e)) (u : TypeId) (v : Value) : (_root_.Go.Op.equalIn (d + 1) t .nilIface (.iface u v)).run P w = .ok false w := by
  simp [_root_.Go.Op.equalIn, run_underlying hu]
theorem eq_n2 (d : Nat) {t : TypeId} {e} (hu : P.underlying t = some (.interface e)) (u : TypeId) (v : Value) : (_root_.Go.Op.equalIn (d + 1) t (.iface u v) .nilIface).run P w = .ok false w := by
  simp [_root_.Go.Op.equalIn, run_underlying hu]
theorem eq_f0 (d : Nat) {t : TypeId} {p q r} (hu : P.underlying t = some (.func p q r)) : (_root_.Go.Op.equalIn (d + 1) t .nilFunc .nilFunc).run P w = .ok true w := by
  simp [_root_.Go.Op.equalIn, run_underlying hu]
theorem eq_f1 (d : Nat) {t : TypeId} {p q r} (hu : P.underlying t = some (.func p q r)) (f : _root_.Go.Fn) (x y : Array Value) : (_root_.Go.Op.equalIn (d + 1) t .nilFunc (.func f x y)).run P w = .ok false w := by
  simp [_root_.Go.Op.equalIn, run_underlying hu]
theorem eq_f2 (d : Nat) {t : TypeId} {p q r} (hu : P.underlying t = some (.func p q r)) (f : _root_.Go.Fn) (x y : Array Value) : (_root_.Go.Op.equalIn (d + 1) t (.func f x y) .nilFunc).run P w = .ok false w := by
  simp [_root_.Go.Op.equalIn, run_underlying hu]
theorem eq_m0 (d : Nat) {t : TypeId} {p q} (hu : P.underlying t = some (.map p q)) (b : Option Nat) : (_root_.Go.Op.equalIn (d + 1) t (.map none) (.map b)).run P w = .ok b.isNone w := by
  simp [_root_.Go.Op.equalIn, run_underlying hu]
theorem eq_m1 (d : Nat) {t : TypeId} {p q} (hu : P.underlying t = some (.map p q)) (b : Nat) : (_root_.Go.Op.equalIn (d + 1) t (.map (some b)) (.map none)).run P w = .ok false w := by
  simp [_root_.Go.Op.equalIn, run_underlying hu]
theorem wp_eq {ne b : Bool} {gop : BinOp} {t t' : TypeId} {x' y' : Operand} (ho : o.op = .binOp gop t x' y' t') (hop : gop = (if ne then .neq else .eql)) (hh : HRel Γ h w N)
    (hk : K (.bool (b != ne)) h = some r) (hc : Cont Γ w N K r a o.dst next) {X Y : Value} (hX : a.eval x' = X) (hY : a.eval y' = Y) (hr : refl1 X = true) (hg : (eqGuard gop t x' y' X Y).run P w = .ok () w)
    (he : (_root_.Go.Op.equal t X Y).run P w = .ok b w) : o.wp P a w next Q := by
  refine wp_pure hc hh (x := .bool (b != ne)) ?_ (VRel.bool _).u hk
  have hbo : (binOp gop t X Y).run P w = .ok (.bool (b != ne)) w := by
    subst hop
    cases ne
    · simp only [Bool.false_eq_true, if_false, binOp_eql t hr, Sem.run_bind, he, Result.andThen_ok, Sem.run_pure]; simp
    · simp only [if_true, binOp_neq t hr, Sem.run_bind, he, Result.andThen_ok, Sem.run_pure]; simp
  simp only [execOp, ho, hX, hY, Sem.run_bind, hg, Result.andThen_ok, hbo, Sem.run_pure]
theorem sd_cea (ks : List CK) (ne : Bool) (gop : BinOp) (t t' : TypeId) (x y : X) (x' y' : Operand) (ho : o.op = .binOp gop t x' y' t') (hop : gop = (if ne then .neq else .eql)) (hce : okCea P t ks = true)
    (h1 : okX x x' = true) (h2 : okX y y' = true) (hs : SRel Γ σ a.tmps) (hh : HRel Γ h w N)
    (hk : ceaC ks ne (ev σ x) (ev σ y) (fun v => K v h) = some r) (hc : Cont Γ w N K r a o.dst next) : o.wp P a w next Q := by
  unfold ceaC at hk
  split at hk
  · rename_i p q ex ey
    split at hk
    · rename_i b hb
      have hx := okX_sound hs h1
      have hy := okX_sound hs h2
      rw [ex] at hx
      rw [ey] at hy
      obtain ⟨vs, e1, hr1⟩ := (hx (by simp)).agg_inv
      obtain ⟨us, e2, hr2⟩ := (hy (by simp)).agg_inv
      unfold okCea at hce
      split at hce
      · rename_i k hfl
        simp only [Bool.and_eq_true, decide_eq_true_eq, Bool.not_eq_true'] at hce
        obtain ⟨⟨⟨hl, hz⟩, hgd⟩, hag⟩ := hce
        have := zip_eq hl hz
        subst this
        have hlen : ∀ {ks : List CK} {c d : List Val} {b : Bool}, eqks ks c d = some b → c.length = ks.length ∧ d.length = ks.length := by
          intro ks
          induction ks with
          | nil => intro c d b h; cases c <;> cases d <;> simp_all [eqks]
          | cons k ks ih =>
            intro c d b h
            match c, d with
            | c :: cs, d :: ds =>
              simp only [eqks] at h
              split at h
              · split at h
                · rename_i q hq
                  obtain ⟨g1, g2⟩ := ih hq
                  simp [g1, g2]
                · cases h
              · cases h
            | [], _ => simp [eqks] at h
            | _ :: _, [] => simp [eqks] at h
        obtain ⟨l1, l2⟩ := hlen hb
        have he := flat_eq (Γ := Γ) 20 t k hfl vs.toList us.toList p q b hr1 hr2 l1 l2 hb 10000 (by omega) w
        simp only [asV, hag, if_true, Array.toArray_toList] at he
        refine wp_eq ho hop hh hk hc e1 e2 rfl ?_ he
        exact run_eqGuard_agg w gop t x' y' vs us hgd
      · cases hce
    · cases hk
  · cases hk
theorem sd_ce (k : CK) (ne : Bool) (gop : BinOp) (t t' : TypeId) (x y : X) (x' y' : Operand) (ho : o.op = .binOp gop t x' y' t') (hop : gop = (if ne then .neq else .eql)) (hce : okCe P t x' y' k = true)
    (h1 : okX x x' = true) (h2 : okX y y' = true) (hs : SRel Γ σ a.tmps) (hh : HRel Γ h w N)
    (hk : ceC k ne (ev σ x) (ev σ y) (fun v => K v h) = some r) (hc : Cont Γ w N K r a o.dst next) : o.wp P a w next Q := by
  unfold ceC at hk
  split at hk
  · rename_i b hb
    have hx := okX_sound hs h1
    have hy := okX_sound hs h2
    have fin : ∀ X Y, a.eval x' = X → a.eval y' = Y → refl1 X = true → (eqGuard gop t x' y' X Y).run P w = .ok () w → (_root_.Go.Op.equalIn (9999 + 1) t X Y).run P w = .ok b w → o.wp P a w next Q :=
      fun X Y e1 e2 hr hg he => wp_eq ho hop hh hk hc e1 e2 hr hg he
    unfold okCe at hce
    split at hce
    · rename_i hu
      unfold eqk at hb
      split at hb <;> first | (cases hb; done) | skip
      all_goals (try (simp at *; done))
      rename_i p q ex ey
      simp at hb
      subst hb
      exact fin _ _ (ob hx ex) (ob hy ey) rfl (by simp only [eqGuard]; split <;> rfl) (run_equalIn_bool w 9999 t _ _ hu)
    · rename_i e hu
      unfold eqk at hb
      split at hb <;> first | (cases hb; done) | skip
      all_goals (try (simp at *; done))
      · rename_i ex ey
        rw [ex] at hx; rw [ey] at hy
        have e1 := hx (by simp); have e2 := hy (by simp)
        generalize a.eval x' = X at *; generalize a.eval y' = Y at *
        cases e1; cases e2
        simp at hb; subst hb
        exact fin _ _ rfl rfl rfl (by simp only [eqGuard]; split <;> rfl) (by first | exact eq_p0 9999 hu _ | exact eq_p1 9999 hu _ | exact eq_l 9999 hu _ _ _ | exact eq_n0 9999 hu | exact eq_n1 9999 hu _ _ | exact eq_n2 9999 hu _ _ | exact eq_f0 9999 hu | exact eq_f1 9999 hu _ _ _ | exact eq_f2 9999 hu _ _ _ | exact eq_m0 9999 hu _ | exact eq_m1 9999 hu _)
      · rename_i b1 q1 ex ey
        rw [ex] at hx; rw [ey] at hy
        have e1 := hx (by simp); have e2 := hy (by simp)
        generalize a.eval x' = X at *; generalize a.eval y' = Y at *
        cases e1; cases e2
        simp at hb; subst hb
        exact fin _ _ rfl rfl rfl (by simp only [eqGuard]; split <;> rfl) (by first | exact eq_p0 9999 hu _ | exact eq_p1 9999 hu _ | exact eq_l 9999 hu _ _ _ | exact eq_n0 9999 hu | exact eq_n1 9999 hu _ _ | exact eq_n2 9999 hu _ _ | exact eq_f0 9999 hu | exact eq_f1 9999 hu _ _ _ | exact eq_f2 9999 hu _ _ _ | exact eq_m0 9999 hu _ | exact eq_m1 9999 hu _)
      · rename_i b1 q1 ex ey
        rw [ex] at hx; rw [ey] at hy
        have e1 := hx (by simp); have e2 := hy (by simp)
        generalize a.eval x' = X at *; generalize a.eval y' = Y at *
        cases e1; cases e2
        simp at hb; subst hb
        exact fin _ _ rfl rfl rfl (by simp only [eqGuard]; split <;> rfl) (by first | exact eq_p0 9999 hu _ | exact eq_p1 9999 hu _ | exact eq_l 9999 hu _ _ _ | exact eq_n0 9999 hu | exact eq_n1 9999 hu _ _ | exact eq_n2 9999 hu _ _ | exact eq_f0 9999 hu | exact eq_f1 9999 hu _ _ _ | exact eq_f2 9999 hu _ _ _ | exact eq_m0 9999 hu _ | exact eq_m1 9999 hu _)
    · rename_i e hu
      unfold eqk at hb
      split at hb <;> first | (cases hb; done) | skip
      all_goals (try (simp at *; done))
      · rename_i ex ey
        rw [ex] at hx; rw [ey] at hy
        obtain ⟨rfl, e1⟩ := (hx (by simp)).nls_inv
        obtain ⟨rfl, e2⟩ := (hy (by simp)).nls_inv
        simp at hb; subst hb
        exact fin _ _ e1 e2 rfl (by simp only [eqGuard]; split <;> rfl) (eq_l 9999 hu _ _ _)
      · rename_i ex ey
        rw [ex] at hx; rw [ey] at hy
        have e1 := hx (by simp)
        obtain ⟨rfl, e2⟩ := (hy (by simp)).nls_inv
        simp at hb; subst hb
        have had : ∃ ad n c, a.eval x' = .slice (some ad) n c := by
          generalize a.eval x' = X at *
          cases e1 with
          | sl0 w z c a h => exact ⟨_, _, _, rfl⟩
          | sl w z l B q c f hw hcap hz h1 h2 => exact ⟨_, _, _, rfl⟩
        obtain ⟨ad, n, c, e3⟩ := had
        exact fin _ _ e3 e2 rfl (by simp only [eqGuard]; split <;> rfl) (eq_l 9999 hu _ _ _)
      · rename_i ex ey
        rw [ex] at hx; rw [ey] at hy
        have e1 := hx (by simp)
        obtain ⟨rfl, e2⟩ := (hy (by simp)).nls_inv
        simp at hb; subst hb
        have had : ∃ ad n c, a.eval x' = .slice (some ad) n c := by
          generalize a.eval x' = X at *
          cases e1 with
          | sl0 w z c a h => exact ⟨_, _, _, rfl⟩
          | sl w z l B q c f hw hcap hz h1 h2 => exact ⟨_, _, _, rfl⟩
        obtain ⟨ad, n, c, e3⟩ := had
        exact fin _ _ e3 e2 rfl (by simp only [eqGuard]; split <;> rfl) (eq_l 9999 hu _ _ _)
      · rename_i ex ey
        rw [ex] at hx; rw [ey] at hy
        have e1 := hx (by simp)
        obtain ⟨rfl, e2⟩ := (hy (by simp)).nls_inv
        simp at hb; subst hb
        have had : ∃ ad n c, a.eval x' = .slice (some ad) n c := by
          generalize a.eval x' = X at *
          cases e1 with
          | sl0 w z c a h => exact ⟨_, _, _, rfl⟩
          | sl w z l B q c f hw hcap hz h1 h2 => exact ⟨_, _, _, rfl⟩
        obtain ⟨ad, n, c, e3⟩ := had
        exact fin _ _ e3 e2 rfl (by simp only [eqGuard]; split <;> rfl) (eq_l 9999 hu _ _ _)
      · rename_i b1 q1 n1 c1 z1 z2 l2 ex ey
        rw [ex] at hx; rw [ey] at hy
        obtain ⟨B, c', e1, -⟩ := (hx (by simp)).ms_inv
        obtain ⟨rfl, e2⟩ := (hy (by simp)).nls_inv
        simp at hb; subst hb
        exact fin _ _ e1 e2 rfl (by simp only [eqGuard]; split <;> rfl) (by first | exact eq_p0 9999 hu _ | exact eq_p1 9999 hu _ | exact eq_l 9999 hu _ _ _ | exact eq_n0 9999 hu | exact eq_n1 9999 hu _ _ | exact eq_n2 9999 hu _ _ | exact eq_f0 9999 hu | exact eq_f1 9999 hu _ _ _ | exact eq_f2 9999 hu _ _ _ | exact eq_m0 9999 hu _ | exact eq_m1 9999 hu _)
    · rename_i e hu
      unfold eqk at hb
      split at hb <;> first | (cases hb; done) | skip
      all_goals (try (simp at *; done))
      · rename_i ex ey
        rw [ex] at hx; rw [ey] at hy
        have e1 := hx (by simp); have e2 := hy (by simp)
        have e1' : a.eval x' = .nilIface := by generalize a.eval x' = X at *; cases e1; rfl
        have e2' : a.eval y' = .nilIface := by generalize a.eval y' = Y at *; cases e2; rfl
        simp at hb; subst hb
        refine fin _ _ e1' e2' rfl ?_ (eq_n0 9999 hu)
        rcases (Bool.or_eq_true_iff.1 hce : _ ∨ _) with hq | hq
        · cases x' <;> simp [isCst] at hq
          cases gop <;> simp [eqGuard]
        · cases y' <;> simp [isCst] at hq
          cases gop <;> simp [eqGuard]
      · rename_i t1 v1 ex ey
        rw [ex] at hx; rw [ey] at hy
        have e1 := hx (by simp); have e2 := hy (by simp)
        generalize a.eval x' = X at *; generalize a.eval y' = Y at *
        cases e1; cases e2
        simp at hb; subst hb
        exact fin _ _ rfl rfl rfl (by simp only [eqGuard]; split <;> rfl) (by first | exact eq_p0 9999 hu _ | exact eq_p1 9999 hu _ | exact eq_l 9999 hu _ _ _ | exact eq_n0 9999 hu | exact eq_n1 9999 hu _ _ | exact eq_n2 9999 hu _ _ | exact eq_f0 9999 hu | exact eq_f1 9999 hu _ _ _ | exact eq_f2 9999 hu _ _ _ | exact eq_m0 9999 hu _ | exact eq_m1 9999 hu _)
      · rename_i t1 v1 ex ey
        rw [ex] at hx; rw [ey] at hy
        have e1 := hx (by simp); have e2 := hy (by simp)
        generalize a.eval x' = X at *; generalize a.eval y' = Y at *
        cases e1; cases e2
        simp at hb; subst hb
        exact fin _ _ rfl rfl rfl (by simp only [eqGuard]; split <;> rfl) (by first | exact eq_p0 9999 hu _ | exact eq_p1 9999 hu _ | exact eq_l 9999 hu _ _ _ | exact eq_n0 9999 hu | exact eq_n1 9999 hu _ _ | exact eq_n2 9999 hu _ _ | exact eq_f0 9999 hu | exact eq_f1 9999 hu _ _ _ | exact eq_f2 9999 hu _ _ _ | exact eq_m0 9999 hu _ | exact eq_m1 9999 hu _)
    · rename_i ps rs vr hu
      unfold eqk at hb
      split at hb <;> first | (cases hb; done) | skip
      all_goals (try (simp at *; done))
      all_goals
        rename_i ex ey
        rw [ex] at hx; rw [ey] at hy
        have e1 := hx (by simp); have e2 := hy (by simp)
        generalize a.eval x' = X at *; generalize a.eval y' = Y at *
        cases e1; cases e2
        simp at hb; subst hb
        exact fin _ _ rfl rfl rfl (by simp only [eqGuard]; split <;> rfl) (by first | exact eq_p0 9999 hu _ | exact eq_p1 9999 hu _ | exact eq_l 9999 hu _ _ _ | exact eq_n0 9999 hu | exact eq_n1 9999 hu _ _ | exact eq_n2 9999 hu _ _ | exact eq_f0 9999 hu | exact eq_f1 9999 hu _ _ _ | exact eq_f2 9999 hu _ _ _ | exact eq_m0 9999 hu _ | exact eq_m1 9999 hu _)
    · rename_i ps rs hu
      unfold eqk at hb
      split at hb <;> first | (cases hb; done) | skip
      all_goals (try (simp at *; done))
      all_goals
        rename_i ex ey
        rw [ex] at hx; rw [ey] at hy
        have e1 := hx (by simp); have e2 := hy (by simp)
        generalize a.eval x' = X at *; generalize a.eval y' = Y at *
        cases e1; cases e2
        simp at hb; subst hb
        exact fin _ _ rfl rfl rfl (by simp only [eqGuard]; split <;> rfl) (by first | exact eq_p0 9999 hu _ | exact eq_p1 9999 hu _ | exact eq_l 9999 hu _ _ _ | exact eq_n0 9999 hu | exact eq_n1 9999 hu _ _ | exact eq_n2 9999 hu _ _ | exact eq_f0 9999 hu | exact eq_f1 9999 hu _ _ _ | exact eq_f2 9999 hu _ _ _ | exact eq_m0 9999 hu _ | exact eq_m1 9999 hu _)
    · cases hce
  · cases hk
end Go.AM
