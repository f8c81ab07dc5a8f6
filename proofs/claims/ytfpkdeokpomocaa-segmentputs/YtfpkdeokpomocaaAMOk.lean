import Derived.Test.YtfpkdeokpomocaaAMRel
set_option linter.constructorNameAsVariable false
set_option linter.unusedVariables false
set_option linter.unusedSimpArgs false
set_option linter.unusedVariables false
set_option linter.unusedSimpArgs false
namespace Go.AM
open Go
abbrev GOp := _root_.Go.Op
abbrev GOper := _root_.Go.Oper
abbrev GCode := _root_.Go.Code
def okC1 : Val → Value → Bool
  | .bool a, .bool b => a == b
  | .int j a, .int k b => decide (j = k) && a == b
  | .str l, .string s => s.data.toList == l
  | .nilp, .pointer none => true
  | .sl .nl _ [], .slice none 0 0 => true
  | .nili, .nilIface => true
  | .nilm, .map none => true
  | .nilf, .nilFunc => true
  | _, _ => false
def okCs : List Val → List Value → Bool
  | [], [] => true
  | a :: x, b :: y => okC1 a b && okCs x y
  | _, _ => false
def okC : Val → Value → Bool
  | .agg cs, .agg vs => okCs cs vs.toList
  | .tup [], .tuple vs => vs.size.beq 0
  | v, x => okC1 v x
def okX : X → Operand → Bool
  | .t n, .tmp m => n.beq m
  | .c (.func f []), .func g => f.beq g
  | .c v, .const x => okC v x
  | _, _ => false
def okXs : List X → List Operand → Bool
  | [], [] => true
  | a :: x, b :: y => okX a b && okXs x y
  | _, _ => false
def okXo : Option X → Option Operand → Bool
  | none, none => true
  | some a, some b => okX a b
  | _, _ => false
theorem okC1_sound {Γ : Gam} {v : Val} {x : Value} (h : okC1 v x = true) : VRel Γ v x ∧ x.oneCell' = true := by
  unfold okC1 at h
  split at h <;> simp at h <;> try subst h
  · exact ⟨.bool _, rfl⟩
  · obtain ⟨rfl, rfl⟩ := h; exact ⟨.int _ _, rfl⟩
  · exact ⟨.str _ _ rfl, rfl⟩
  · exact ⟨.nilp, rfl⟩
  · exact ⟨.nls _, rfl⟩
  · exact ⟨.nili, rfl⟩
  · exact ⟨.nilm, rfl⟩
  · exact ⟨.nilf, rfl⟩
theorem okCs_sound {Γ : Gam} : ∀ {cs : List Val} {vs : List Value}, okCs cs vs = true → CRel Γ cs vs
  | [], [], _ => .nil Γ
  | a :: x, b :: y, h => by
    simp only [okCs, Bool.and_eq_true] at h
    obtain ⟨h1, h2⟩ := okC1_sound (Γ := Γ) h.1
    exact .cons h1 h2 (okCs_sound h.2)
  | [], _ :: _, h => by simp [okCs] at h
  | _ :: _, [], h => by simp [okCs] at h
theorem CRel.agg {Γ : Gam} {cs : List Val} {vs : List Value} (h : CRel Γ cs vs) : VRel Γ (.agg cs) (.agg vs.toArray) :=
  .agg cs vs.toArray (by simpa using h.len) (fun i hi => by simpa using h.one i hi) (fun i hi => by simpa using h.rel i hi)
theorem okC_sound {Γ : Gam} {v : Val} {x : Value} (h : okC v x = true) : VRel Γ v x := by
  unfold okC at h
  split at h
  · rename_i cs vs
    have := CRel.agg (okCs_sound (Γ := Γ) h)
    simpa using this
  · rename_i vs
    have hz : vs.size = 0 := Nat.eq_of_beq_eq_true h
    exact .tup [] vs (by simpa using hz.symm) (fun i hi => absurd hi (Nat.not_lt_zero i))
  · exact (okC1_sound h).1
theorem okX_sound {Γ : Gam} {σ : Slots} {a : Act} (hs : SRel Γ σ a.tmps) {x : X} {o : Operand} (h : okX x o = true) : URel Γ (ev σ x) (a.eval o) := by
  unfold okX at h
  split at h
  · have := Nat.eq_of_beq_eq_true h
    subst this
    exact hs.get _
  · have := Nat.eq_of_beq_eq_true h
    subst this
    exact (VRel.func _ [] #[] rfl (fun i hi => absurd hi (Nat.not_lt_zero i))).u
  · exact (okC_sound h).u
  · cases h
structure ARel (Γ : Gam) (cs : List Val) (vs : List Value) : Prop where
  len : cs.length = vs.length
  rel : ∀ i, i < cs.length → URel Γ (cs.getD i .unk) (vs.getD i undef)
theorem ARel.nil (Γ : Gam) : ARel Γ [] [] := ⟨rfl, fun i h => absurd h (Nat.not_lt_zero i)⟩
theorem ARel.cons {Γ : Gam} {c : Val} {v : Value} {cs : List Val} {vs : List Value} (h : URel Γ c v) (r : ARel Γ cs vs) : ARel Γ (c :: cs) (v :: vs) := by
  refine ⟨by simp [r.len], fun i hi => ?_⟩
  cases i with
  | zero => simpa using h
  | succ i => simpa using r.rel i (by simpa using hi)
theorem ARel.head {Γ : Gam} {c : Val} {v : Value} {cs : List Val} {vs : List Value} (h : ARel Γ (c :: cs) (v :: vs)) : URel Γ c v := by simpa using h.rel 0 (by simp)
theorem ARel.tail {Γ : Gam} {c : Val} {v : Value} {cs : List Val} {vs : List Value} (h : ARel Γ (c :: cs) (v :: vs)) : ARel Γ cs vs :=
  ⟨by simpa using h.len, fun i hi => by simpa using h.rel (i + 1) (by simpa using hi)⟩
theorem ARel.mono {Γ Δ : Gam} (hle : Γ.Le Δ) {cs : List Val} {vs : List Value} (h : ARel Γ cs vs) : ARel Δ cs vs := ⟨h.len, fun i hi => (h.rel i hi).mono hle⟩
theorem ARel.append {Γ : Gam} {a b : List Val} {x y : List Value} (h : ARel Γ a x) (k : ARel Γ b y) : ARel Γ (a ++ b) (x ++ y) := by
  induction a generalizing x with
  | nil =>
    have : x = [] := by have := h.len; cases x <;> simp_all
    subst this; exact k
  | cons c a ih =>
    cases x with
    | nil => have := h.len; simp at this
    | cons v x => exact .cons h.head (ih h.tail)
theorem ARel.tup {Γ : Gam} {cs : List Val} {vs : List Value} (h : ARel Γ cs vs) : VRel Γ (.tup cs) (.tuple vs.toArray) :=
  .tup cs vs.toArray (by simpa using h.len) (fun i hi hne => by simpa using h.rel i hi hne)
theorem ARel.func {Γ : Gam} {cs : List Val} {vs : List Value} (f : Nat) (h : ARel Γ cs vs) : VRel Γ (.func f cs) (.func (.func f) #[] vs.toArray) :=
  .func f cs vs.toArray (by simpa using h.len) (fun i hi hne => by simpa using h.rel i hi hne)
theorem okXs_sound {Γ : Gam} {σ : Slots} {a : Act} (hs : SRel Γ σ a.tmps) : ∀ {xs : List X} {os : List Operand}, okXs xs os = true → ARel Γ (evs σ xs) (os.map a.eval)
  | [], [], _ => .nil Γ
  | x :: xs, o :: os, h => by
    simp only [okXs, Bool.and_eq_true] at h
    exact .cons (okX_sound hs h.1) (okXs_sound hs h.2)
  | [], _ :: _, h => by simp [okXs] at h
  | _ :: _, [], h => by simp [okXs] at h
def tAgg (P : Program) (t : TypeId) : Option Bool :=
  match P.underlying t with
  | some (.struct _) | some (.array ..) => some true
  | some _ => some false
  | none => none
def tSize (P : Program) (t : TypeId) : Option Nat := (P.info? t).map (·.size)
def tInt (P : Program) (t : TypeId) : Option IntKind :=
  match P.underlying t with
  | some (.int k) => some k
  | _ => none
def tStr (P : Program) (t : TypeId) : Bool :=
  match P.underlying t with
  | some .string => true
  | _ => false
def tSl (P : Program) (t : TypeId) : Option TypeId :=
  match P.underlying t with
  | some (.slice e) => some e
  | _ => none
def tArr (P : Program) (t : TypeId) : Option (Nat × TypeId) :=
  match P.underlying t with
  | some (.array n e) => some (n, e)
  | _ => none
def tFld (P : Program) (t : TypeId) (f : Nat) : Option (Nat × TypeId) :=
  match P.underlying t with
  | some (.struct fs) => (fs[f]?).map fun x => (x.offset, x.type)
  | _ => none
def tZero (P : Program) (t : TypeId) : Option Value := (P.info? t).bind (·.zero)
theorem run_isAgg {P : Program} {t : TypeId} {b : Bool} (h : tAgg P t = some b) (w : World) : (isAgg t).run P w = .ok b w := by
  unfold tAgg at h
  split at h <;> simp at h
  all_goals subst h
  all_goals rename_i hu
  · simp [isAgg, run_underlying hu]
  · simp [isAgg, run_underlying hu]
  · simp only [isAgg, Sem.run_bind, run_underlying hu, Result.andThen_ok]
    first | rfl | (split <;> first | rfl | simp_all)
theorem run_sizeOf {P : Program} {t : TypeId} {n : Nat} (h : tSize P t = some n) (w : World) : (sizeOf t).run P w = .ok n w := by
  unfold tSize at h
  cases hi : P.info? t with
  | none => simp [hi] at h
  | some i =>
    rw [hi] at h
    simp at h
    simp [sizeOf, typeInfo, hi, h]
theorem run_zero {P : Program} {t : TypeId} {v : Value} (h : tZero P t = some v) (w : World) : (zeroValue t).run P w = .ok v w := by
  unfold tZero at h
  cases hi : P.info? t with
  | none => simp [hi] at h
  | some i =>
    rw [hi] at h
    simp at h
    simp [zeroValue, typeInfo, hi, h]
end Go.AM
