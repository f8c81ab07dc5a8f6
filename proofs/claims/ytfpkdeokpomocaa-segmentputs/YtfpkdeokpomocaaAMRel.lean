import Derived.Test.YtfpkdeokpomocaaAMCore
import Derived.WalkKit
set_option linter.constructorNameAsVariable false
set_option linter.unusedVariables false
set_option linter.unusedSimpArgs false
set_option linter.unusedVariables false
set_option linter.unusedSimpArgs false
namespace Go.AM
open Go
inductive Role where
  | blk (b : Nat)
  | tok (t : Nat)
structure Gam where
  bl : Nat → Option Nat
  ro : Nat → Option Role
  pr : Nat → Nat → Option Value
  tk : Nat → Nat → Option (Nat × Nat × Nat × Nat)
structure Gam.Le (Γ Δ : Gam) : Prop where
  bl : ∀ b B, Γ.bl b = some B → Δ.bl b = some B
  ro : ∀ B r, Γ.ro B = some r → Δ.ro B = some r
  pr : ∀ B o v, Γ.pr B o = some v → Δ.pr B o = some v
  tk : ∀ t n x, Γ.tk t n = some x → Δ.tk t n = some x
theorem Gam.Le.refl (Γ : Gam) : Γ.Le Γ := ⟨fun _ _ h => h, fun _ _ h => h, fun _ _ _ h => h, fun _ _ _ h => h⟩
theorem Gam.Le.trans {Γ Δ Θ : Gam} (h : Γ.Le Δ) (k : Δ.Le Θ) : Γ.Le Θ :=
  ⟨fun _ _ x => k.bl _ _ (h.bl _ _ x), fun _ _ x => k.ro _ _ (h.ro _ _ x), fun _ _ _ x => k.pr _ _ _ (h.pr _ _ _ x), fun _ _ _ x => k.tk _ _ _ (h.tk _ _ _ x)⟩
def Own.fits (Γ : Gam) (B o n c z : Nat) : Own → Prop
  | .nl => False
  | .ex => c = n
  | .ro => True
  | .tok t => 0 < n ∧ Γ.tk t n = some (B, o, c, z)
inductive VRel (Γ : Gam) : Val → Value → Prop where
  | bool (b : Bool) : VRel Γ (.bool b) (.bool b)
  | int (k : IntKind) (n : Int) : VRel Γ (.int k n) (.int k n)
  | str (l : List UInt8) (s : ByteArray) (h : s.data.toList = l) : VRel Γ (.str l) (.string s)
  | nilp : VRel Γ .nilp (.pointer none)
  | ptr (b o B : Nat) (h : Γ.bl b = some B) : VRel Γ (.ptr b o) (.pointer (some ⟨B, o, none⟩))
  | ep (cs : List Val) (B o : Nat) (f : Nat → Value) (h : ∀ i, i < cs.length → Γ.pr B (o + i) = some (f i) ∧ (f i).oneCell' = true)
      (r : ∀ i, i < cs.length → VRel Γ (cs.getD i .unk) (f i)) : VRel Γ (.ep cs) (.pointer (some ⟨B, o, none⟩))
  | sl0 (w : Own) (z c : Nat) (a : Addr) (h : w = .ro ∨ (w = .ex ∧ c = 0)) : VRel Γ (.sl w z []) (.slice (some a) 0 c)
  | nls (z : Nat) : VRel Γ (.sl .nl z []) (.slice none 0 0)
  | sl (w : Own) (z : Nat) (l : List Val) (B o c : Nat) (f : Nat → Value) (hw : w.fits Γ B o l.length c z) (hcap : l.length ≤ c) (hz : ∀ x ∈ l, (cells x).length = z)
      (h : ∀ i, i < (l.flatMap cells).length → Γ.pr B (o + i) = some (f i) ∧ (f i).oneCell' = true)
      (r : ∀ i, i < (l.flatMap cells).length → VRel Γ ((l.flatMap cells).getD i .unk) (f i)) : VRel Γ (.sl w z l) (.slice (some ⟨B, o, none⟩) l.length c)
  | ms (b o n c z c' B : Nat) (h : Γ.bl b = some B) (hc : c ≤ c') : VRel Γ (.ms b o n c z) (.slice (some ⟨B, o, none⟩) n c')
  | func (f : Nat) (cs : List Val) (vs : Array Value) (hl : cs.length = vs.size) (h : ∀ i, i < cs.length → cs.getD i .unk ≠ .unk → VRel Γ (cs.getD i .unk) (vs.getD i undef)) :
      VRel Γ (.func f cs) (.func (.func f) #[] vs)
  | agg (cs : List Val) (vs : Array Value) (hl : cs.length = vs.size) (h1 : ∀ i, i < cs.length → (vs.getD i undef).oneCell' = true) (h : ∀ i, i < cs.length → VRel Γ (cs.getD i .unk) (vs.getD i undef)) :
      VRel Γ (.agg cs) (.agg vs)
  | tup (cs : List Val) (vs : Array Value) (hl : cs.length = vs.size) (h : ∀ i, i < cs.length → cs.getD i .unk ≠ .unk → VRel Γ (cs.getD i .unk) (vs.getD i undef)) :
      VRel Γ (.tup cs) (.tuple vs)
  | iface (t : Nat) (v : Val) (x : Value) (h : VRel Γ v x) : VRel Γ (.iface t v) (.iface t x)
  | nili : VRel Γ .nili .nilIface
  | map (b B : Nat) (h : Γ.bl b = some B) : VRel Γ (.map b) (.map (some B))
  | nilm : VRel Γ .nilm (.map none)
  | nilf : VRel Γ .nilf .nilFunc
theorem Own.fits_mono {Γ Δ : Gam} (hle : Γ.Le Δ) {B o n c z : Nat} {w : Own} (h : w.fits Γ B o n c z) : w.fits Δ B o n c z := by
  cases w with
  | tok t => exact ⟨h.1, hle.tk _ _ _ h.2⟩
  | _ => exact h
theorem VRel.mono {Γ Δ : Gam} (hle : Γ.Le Δ) {v : Val} {x : Value} (h : VRel Γ v x) : VRel Δ v x := by
  induction h with
  | bool b => exact .bool b
  | int k n => exact .int k n
  | str l s h => exact .str l s h
  | nilp => exact .nilp
  | ptr b o B h => exact .ptr b o B (hle.bl _ _ h)
  | ep cs B o f h r ih => exact .ep cs B o f (fun i hi => ⟨hle.pr _ _ _ (h i hi).1, (h i hi).2⟩) ih
  | sl0 w z c a h => exact .sl0 w z c a h
  | nls z => exact .nls z
  | sl w z l B o c f hw hcap hz h r ih => exact .sl w z l B o c f (Own.fits_mono hle hw) hcap hz (fun i hi => ⟨hle.pr _ _ _ (h i hi).1, (h i hi).2⟩) ih
  | ms b o n c z c' B h hc => exact .ms b o n c z c' B (hle.bl _ _ h) hc
  | func f cs vs hl h ih => exact .func f cs vs hl ih
  | agg cs vs hl h1 h ih => exact .agg cs vs hl h1 ih
  | tup cs vs hl h ih => exact .tup cs vs hl ih
  | iface t v x h ih => exact .iface t v x ih
  | nili => exact .nili
  | map b B h => exact .map b B (hle.bl _ _ h)
  | nilm => exact .nilm
  | nilf => exact .nilf
def URel (Γ : Gam) (v : Val) (x : Value) : Prop := v ≠ .unk → VRel Γ v x
theorem URel.mono {Γ Δ : Gam} (hle : Γ.Le Δ) {v : Val} {x : Value} (h : URel Γ v x) : URel Δ v x := fun hv => (h hv).mono hle
theorem VRel.u {Γ : Gam} {v : Val} {x : Value} (h : VRel Γ v x) : URel Γ v x := fun _ => h
theorem VRel.ne {Γ : Gam} {v : Val} {x : Value} (h : VRel Γ v x) : v ≠ .unk := by cases h <;> simp
structure CRel (Γ : Gam) (cs : List Val) (vs : List Value) : Prop where
  len : cs.length = vs.length
  one : ∀ i, i < cs.length → (vs.getD i undef).oneCell' = true
  rel : ∀ i, i < cs.length → VRel Γ (cs.getD i .unk) (vs.getD i undef)
theorem CRel.nil (Γ : Gam) : CRel Γ [] [] := ⟨rfl, fun i h => absurd h (Nat.not_lt_zero i), fun i h => absurd h (Nat.not_lt_zero i)⟩
theorem CRel.cons {Γ : Gam} {c : Val} {v : Value} {cs : List Val} {vs : List Value} (h : VRel Γ c v) (h1 : v.oneCell' = true) (r : CRel Γ cs vs) : CRel Γ (c :: cs) (v :: vs) := by
  refine ⟨by simp [r.len], fun i hi => ?_, fun i hi => ?_⟩
  · cases i with
    | zero => simpa using h1
    | succ i => simpa using r.one i (by simpa using hi)
  · cases i with
    | zero => simpa using h
    | succ i => simpa using r.rel i (by simpa using hi)
theorem CRel.head {Γ : Gam} {c : Val} {v : Value} {cs : List Val} {vs : List Value} (h : CRel Γ (c :: cs) (v :: vs)) : VRel Γ c v ∧ v.oneCell' = true := by
  have h1 := h.rel 0 (by simp); have h2 := h.one 0 (by simp)
  simpa using And.intro h1 h2
theorem CRel.tail {Γ : Gam} {c : Val} {v : Value} {cs : List Val} {vs : List Value} (h : CRel Γ (c :: cs) (v :: vs)) : CRel Γ cs vs :=
  ⟨by simpa using h.len, fun i hi => by simpa using h.one (i + 1) (by simpa using hi), fun i hi => by simpa using h.rel (i + 1) (by simpa using hi)⟩
theorem CRel.mono {Γ Δ : Gam} (hle : Γ.Le Δ) {cs : List Val} {vs : List Value} (h : CRel Γ cs vs) : CRel Δ cs vs := ⟨h.len, h.one, fun i hi => (h.rel i hi).mono hle⟩
theorem CRel.append {Γ : Gam} {a b : List Val} {x y : List Value} (h : CRel Γ a x) (k : CRel Γ b y) : CRel Γ (a ++ b) (x ++ y) := by
  induction a generalizing x with
  | nil =>
    have : x = [] := by have := h.len; cases x <;> simp_all
    subst this; exact k
  | cons c a ih =>
    cases x with
    | nil => have := h.len; simp at this
    | cons v x => exact .cons h.head.1 h.head.2 (ih h.tail)
theorem CRel.nil_inv {Γ : Gam} {x : List Value} (h : CRel Γ [] x) : x = [] := by have := h.len; cases x <;> simp_all
theorem CRel.cons_inv {Γ : Gam} {c : Val} {cs : List Val} {x : List Value} (h : CRel Γ (c :: cs) x) : ∃ v vs, x = v :: vs ∧ VRel Γ c v ∧ v.oneCell' = true ∧ CRel Γ cs vs := by
  cases x with
  | nil => have := h.len; simp at this
  | cons v x => exact ⟨v, x, rfl, h.head.1, h.head.2, h.tail⟩
theorem getD_toList {α : Type} (a : Array α) (i : Nat) (d : α) : a.toList.getD i d = a.getD i d := by
  simp [List.getD_eq_getElem?_getD, Array.getD_eq_getD_getElem?]
theorem VRel.cellsR {Γ : Gam} {v : Val} {x : Value} (h : VRel Γ v x) (hv : ∀ l, v ≠ .tup l) : CRel Γ (cells v) x.cells.toList := by
  have one : ∀ {v : Val} {x : Value}, VRel Γ v x → x.oneCell' = true → CRel Γ [v] [x] := fun h h1 => .cons h h1 (.nil Γ)
  cases h with
  | agg cs vs hl h1 h =>
    refine ⟨by simpa [AM.cells, Value.cells] using hl, fun i hi => ?_, fun i hi => ?_⟩
    · simpa [Value.cells] using h1 i hi
    · simpa [Value.cells, AM.cells] using h i hi
  | tup cs vs hl h => exact absurd rfl (hv cs)
  | _ => exact one (by constructor <;> assumption) rfl
structure SRel (Γ : Gam) (σ : Slots) (ts : Array Value) : Prop where
  len : σ.length = ts.size
  rel : ∀ i, i < σ.length → URel Γ (getN σ i) (ts.getD i undef)
theorem getN_ge {σ : Slots} {i : Nat} (h : σ.length ≤ i) : getN σ i = .unk := by
  induction σ generalizing i with
  | nil => rfl
  | cons v σ ih =>
    cases i with
    | zero => simp at h
    | succ i => exact ih (by simpa using h)
theorem SRel.get {Γ : Gam} {σ : Slots} {ts : Array Value} (h : SRel Γ σ ts) (i : Nat) : URel Γ (getN σ i) (ts.getD i undef) := by
  by_cases hi : i < σ.length
  · exact h.rel i hi
  · rw [getN_ge (by omega)]; exact fun h => absurd rfl h
theorem SRel.mono {Γ Δ : Gam} (hle : Γ.Le Δ) {σ : Slots} {ts : Array Value} (h : SRel Γ σ ts) : SRel Δ σ ts := ⟨h.len, fun i hi => (h.rel i hi).mono hle⟩
theorem length_setN (σ : Slots) (n : Nat) (v : Val) : (setN σ n v).length = σ.length := by
  induction σ generalizing n with
  | nil => rfl
  | cons x σ ih => cases n <;> simp [setN, ih]
theorem getN_setN (σ : Slots) (n i : Nat) (v : Val) : getN (setN σ n v) i = if i = n ∧ n < σ.length then v else getN σ i := by
  induction σ generalizing n i with
  | nil => simp [setN, getN]
  | cons x σ ih =>
    cases n with
    | zero => cases i <;> simp [setN, getN]
    | succ n => cases i <;> simp [setN, getN, ih]
theorem SRel.set {Γ : Gam} {σ : Slots} {ts : Array Value} (h : SRel Γ σ ts) {n : Nat} {v : Val} {x : Value} (hv : URel Γ v x) : SRel Γ (setN σ n v) (ts.setIfInBounds n x) := by
  refine ⟨by simp [length_setN, h.len], fun i hi => ?_⟩
  rw [length_setN] at hi
  rw [getN_setN]
  by_cases hc : i = n ∧ n < σ.length
  · rw [if_pos hc]
    obtain ⟨rfl, hn⟩ := hc
    have : i < ts.size := by rw [← h.len]; exact hn
    simpa [Array.getD_eq_getD_getElem?, this] using hv
  · rw [if_neg hc]
    have hne : n ≠ i := fun e => hc ⟨e.symm, by rw [e]; exact hi⟩
    have := h.rel i hi
    rw [Array.getD_eq_getD_getElem?] at this ⊢
    rwa [Array.getElem?_setIfInBounds_ne hne]
theorem SRel.setD {Γ : Gam} {σ : Slots} {a : Act} (h : SRel Γ σ a.tmps) {d : Option Nat} {v : Val} {x : Value} (hv : URel Γ v x) : SRel Γ (setD σ d v) (a.put d x).tmps := by
  cases d with
  | none => exact h
  | some d => exact h.set hv
structure HRel (Γ : Gam) (h : Heap) (w : World) (N : Nat) : Prop where
  lt : ∀ b x, h.blk b = some x → b < h.next
  bllt : ∀ b B, Γ.bl b = some B → b < h.next ∧ Γ.ro B = some (.blk b)
  rolt : ∀ B r, Γ.ro B = some r → N ≤ B ∧ B < w.heap.size
  prok : ∀ B o v, Γ.pr B o = some v → w.cell? ⟨B, o, none⟩ = some v ∧ ∀ b, Γ.ro B ≠ some (.blk b)
  tklt : ∀ t n x, Γ.tk t n = some x → (∃ m, h.blk t = some (.tok m) ∧ n ≤ m) ∧ Γ.ro x.1 = some (.tok t)
  cells : ∀ b l, h.blk b = some (.cells l) → ∃ B c e fr, Γ.bl b = some B ∧ w.heap[B]? = some (.cells c e fr) ∧ l.length ≤ c.size ∧
    (∀ i, i < l.length → VRel Γ (l.getD i .unk) (c.getD i undef) ∧ (c.getD i undef).oneCell' = true ∧ ¬ (fr.1 ≤ i ∧ i < fr.2))
  toks : ∀ t n, h.blk t = some (.tok n) → ∃ B o c z arr e fr, Γ.tk t n = some (B, o, c, z) ∧ w.heap[B]? = some (.cells arr e fr) ∧ o + c * z ≤ arr.size ∧
    (∀ i, o + n * z ≤ i → Γ.pr B i = none) ∧ (∀ i, o + n * z ≤ i → i < o + c * z → ¬ (fr.1 ≤ i ∧ i < fr.2))
  maps : ∀ b l, h.blk b = some (.map l) → False
structure Frame (Γ Δ : Gam) (w w' : World) : Prop where
  os : w'.os = w.os
  tape : w'.tape = w.tape
  output : w'.output = w.output
  size : w.heap.size ≤ w'.heap.size
  block : ∀ B, B < w.heap.size → Γ.ro B = none → w'.heap[B]? = w.heap[B]?
  role : ∀ B, B < w.heap.size → Γ.ro B = none → Δ.ro B = none
  prn : ∀ B q, B < w.heap.size → Γ.ro B = none → Δ.pr B q = Γ.pr B q
theorem Frame.refl (Γ : Gam) (w : World) : Frame Γ Γ w w := ⟨rfl, rfl, rfl, Nat.le_refl _, fun _ _ _ => rfl, fun _ _ h => h, fun _ _ _ _ => rfl⟩
theorem Frame.trans {Γ Δ Θ : Gam} {a b c : World} (h : Frame Γ Δ a b) (k : Frame Δ Θ b c) : Frame Γ Θ a c :=
  ⟨k.os.trans h.os, k.tape.trans h.tape, k.output.trans h.output, Nat.le_trans h.size k.size,
    fun B hB hr => (k.block B (Nat.lt_of_lt_of_le hB h.size) (h.role B hB hr)).trans (h.block B hB hr), fun B hB hr => k.role B (Nat.lt_of_lt_of_le hB h.size) (h.role B hB hr),
    fun B q hB hr => (k.prn B q (Nat.lt_of_lt_of_le hB h.size) (h.role B hB hr)).trans (h.prn B q hB hr)⟩
theorem takeN_some {n : Nat} {l r : List Val} (h : takeN n l = some r) : r = l.take n ∧ n ≤ l.length := by
  induction n generalizing l r with
  | zero => simp [takeN] at h; subst h; simp
  | succ n ih =>
    cases l with
    | nil => simp [takeN] at h
    | cons x l =>
      simp only [takeN, Option.map_eq_some_iff] at h
      obtain ⟨r', hr, rfl⟩ := h
      obtain ⟨rfl, hl⟩ := ih hr
      exact ⟨by simp, by simpa using hl⟩
theorem dropN_some {n : Nat} {l r : List Val} (h : dropN n l = some r) : r = l.drop n ∧ n ≤ l.length := by
  induction n generalizing l r with
  | zero => simp [dropN] at h; subst h; simp
  | succ n ih =>
    cases l with
    | nil => simp [dropN] at h
    | cons x l => obtain ⟨rfl, hl⟩ := ih (by simpa [dropN] using h); exact ⟨by simp, by simpa using hl⟩
theorem nthN_some {n : Nat} {l : List Val} {v : Val} (h : nthN n l = some v) : l[n]? = some v := by
  induction n generalizing l with
  | zero => cases l <;> simp_all [nthN]
  | succ n ih =>
    cases l with
    | nil => simp [nthN] at h
    | cons x l => simpa using ih (by simpa [nthN] using h)
theorem putN_some {n : Nat} {xs l r : List Val} (h : putN n xs l = some r) : r = l.take n ++ xs ++ l.drop (n + xs.length) ∧ n + xs.length ≤ l.length := by
  induction l generalizing n xs r with
  | nil =>
    cases n with
    | zero => cases xs with
      | nil => simp [putN] at h; subst h; simp
      | cons x xs => simp [putN] at h
    | succ n => simp [putN] at h
  | cons y l ih =>
    cases n with
    | zero =>
      cases xs with
      | nil => simp [putN] at h; subst h; simp
      | cons x xs =>
        simp only [putN, Option.map_eq_some_iff] at h
        obtain ⟨r', hr, rfl⟩ := h
        obtain ⟨rfl, hl⟩ := ih hr
        refine ⟨?_, ?_⟩
        · simp
        · simp at hl ⊢; omega
    | succ n =>
      simp only [putN, Option.map_eq_some_iff] at h
      obtain ⟨r', hr, rfl⟩ := h
      obtain ⟨rfl, hl⟩ := ih hr
      refine ⟨?_, ?_⟩
      · rw [show n + 1 + xs.length = (n + xs.length) + 1 by omega]; simp
      · simp; omega
theorem bf {a b : Nat} (h : a ≠ b) : a.beq b = false := by
  cases e : a.beq b
  · rfl
  · exact absurd (Nat.eq_of_beq_eq_true e) h
theorem bt {a b : Nat} (h : a = b) : a.beq b = true := by subst h; exact Nat.beq_refl a
theorem Tr.get_zero (v : Option Blk) (l r : Tr) : (Tr.node v l r).get 0 = v := rfl
theorem Tr.get_odd (v : Option Blk) (l r : Tr) {m : Nat} (h0 : m ≠ 0) (h : m % 2 = 1) : (Tr.node v l r).get m = l.get (m / 2) := by
  simp only [Tr.get, bf h0, bt h, cond_false, cond_true]
theorem Tr.get_even (v : Option Blk) (l r : Tr) {m : Nat} (h0 : m ≠ 0) (h : m % 2 ≠ 1) : (Tr.node v l r).get m = r.get (m / 2 - 1) := by
  simp only [Tr.get, bf h0, bf h, cond_false]
theorem Tr.get_node (v : Option Blk) (l r : Tr) (m : Nat) : (Tr.node v l r).get m = if m = 0 then v else if m % 2 = 1 then l.get (m / 2) else r.get (m / 2 - 1) := by
  by_cases h0 : m = 0
  · subst h0; rfl
  · by_cases h1 : m % 2 = 1
    · rw [Tr.get_odd _ _ _ h0 h1, if_neg h0, if_pos h1]
    · rw [Tr.get_even _ _ _ h0 h1, if_neg h0, if_neg h1]
theorem Tr.get_nil (m : Nat) : Tr.nil.get m = none := rfl
theorem Tr.setF_node (k : Nat) (v : Option Blk) (l r : Tr) (n : Nat) (x : Option Blk) : Tr.setF (k + 1) (.node v l r) n x =
    if n = 0 then .node x l r else if n % 2 = 1 then .node v (Tr.setF k l (n / 2) x) r else .node v l (Tr.setF k r (n / 2 - 1) x) := by
  by_cases h0 : n = 0
  · simp only [Tr.setF, bt h0, cond_true, if_pos h0]
  · by_cases h1 : n % 2 = 1
    · simp only [Tr.setF, bf h0, bt h1, cond_true, cond_false, if_neg h0, if_pos h1]
    · simp only [Tr.setF, bf h0, bf h1, cond_false, if_neg h0, if_neg h1]
theorem Tr.setF_nil (k : Nat) (n : Nat) (x : Option Blk) : Tr.setF (k + 1) .nil n x =
    if n = 0 then .node x .nil .nil else if n % 2 = 1 then .node none (Tr.setF k .nil (n / 2) x) .nil else .node none .nil (Tr.setF k .nil (n / 2 - 1) x) := by
  by_cases h0 : n = 0
  · simp only [Tr.setF, bt h0, cond_true, if_pos h0]
  · by_cases h1 : n % 2 = 1
    · simp only [Tr.setF, bf h0, bt h1, cond_true, cond_false, if_neg h0, if_pos h1]
    · simp only [Tr.setF, bf h0, bf h1, cond_false, if_neg h0, if_neg h1]
theorem Tr.get_setF (k : Nat) : ∀ (t : Tr) (n m : Nat) (x : Option Blk), n < k → (Tr.setF k t n x).get m = if m = n then x else t.get m := by
  induction k with
  | zero => intro t n m x h; exact absurd h (Nat.not_lt_zero _)
  | succ k ih =>
    intro t n m x h
    have key : ∀ v l r, (if n = 0 then Tr.node x l r else if n % 2 = 1 then .node v (Tr.setF k l (n / 2) x) r else .node v l (Tr.setF k r (n / 2 - 1) x)).get m =
        if m = n then x else (Tr.node v l r).get m := by
      intro v l r
      by_cases h0 : n = 0
      · subst h0
        rw [if_pos rfl, Tr.get_node, Tr.get_node]
        by_cases hm : m = 0
        · simp [hm]
        · simp [hm]
      · rw [if_neg h0]
        by_cases h1 : n % 2 = 1
        · rw [if_pos h1, Tr.get_node, Tr.get_node, ih _ _ _ _ (by omega)]
          by_cases hm : m = 0
          · rw [if_pos hm, if_pos hm, if_neg (by omega)]
          · rw [if_neg hm, if_neg hm]
            by_cases hm1 : m % 2 = 1
            · rw [if_pos hm1, if_pos hm1]
              by_cases e : m = n
              · rw [if_pos e, if_pos (by rw [e])]
              · rw [if_neg e, if_neg (by omega)]
            · rw [if_neg hm1, if_neg hm1, if_neg (by omega)]
        · rw [if_neg h1, Tr.get_node, Tr.get_node, ih _ _ _ _ (by omega)]
          by_cases hm : m = 0
          · rw [if_pos hm, if_pos hm, if_neg (by omega)]
          · rw [if_neg hm, if_neg hm]
            by_cases hm1 : m % 2 = 1
            · rw [if_pos hm1, if_pos hm1, if_neg (by omega)]
            · rw [if_neg hm1, if_neg hm1]
              by_cases e : m = n
              · rw [if_pos e, if_pos (by rw [e])]
              · rw [if_neg e, if_neg (by omega)]
    cases t with
    | nil =>
      rw [Tr.setF_nil]
      have := key none .nil .nil
      rw [this, Tr.get_node, Tr.get_nil, Tr.get_nil, Tr.get_nil]
      by_cases e : m = n
      · simp [e]
      · rw [if_neg e, if_neg e]; split <;> (try rfl); split <;> rfl
    | node v l r => rw [Tr.setF_node]; exact key v l r
theorem Heap.blk_put (h : Heap) (b : Nat) (x : Blk) (m : Nat) : (h.put b x).blk m = if m = b then some x else h.blk m :=
  Tr.get_setF (b + 1) h.m b m (some x) (Nat.lt_succ_self b)
theorem Heap.blk_add (h : Heap) (x : Blk) (m : Nat) : (h.add x).blk m = if m = h.next then some x else h.blk m :=
  Tr.get_setF (h.next + 1) h.m h.next m (some x) (Nat.lt_succ_self _)
theorem Heap.next_put (h : Heap) (b : Nat) (x : Blk) : (h.put b x).next = h.next := rfl
theorem Heap.next_add (h : Heap) (x : Blk) : (h.add x).next = h.next + 1 := rfl
end Go.AM
