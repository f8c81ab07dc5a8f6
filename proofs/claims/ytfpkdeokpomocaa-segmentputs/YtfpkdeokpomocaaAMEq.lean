import Derived.Test.YtfpkdeokpomocaaAMCpy
import Derived.Laws.Cover3
import Derived.Laws.Pointers
set_option linter.constructorNameAsVariable false
set_option linter.unusedVariables false
set_option linter.unusedSimpArgs false
set_option linter.unusedVariables false
set_option linter.unusedSimpArgs false
namespace Go.AM
open Go
variable {P : Program} {N : Nat} {Γ : Gam} {h : Heap} {w : World} {σ : Slots} {a : Act} {o : GOper} {next : Act → World → Prop}
  {Q : _root_.Go.Exit → Act → World → Prop} {r : Val × Heap} {K : Val → Heap → R}
theorem eqks_append : ∀ (k1 k2 : List CK) (c1 c2 d1 d2 : List Val) (b : Bool), c1.length = k1.length → d1.length = k1.length → eqks (k1 ++ k2) (c1 ++ c2) (d1 ++ d2) = some b →
    ∃ b1 b2, eqks k1 c1 d1 = some b1 ∧ eqks k2 c2 d2 = some b2 ∧ b = (b1 && b2)
  | [], k2, c1, c2, d1, d2, b, h1, h2, h => by
    have e1 : c1 = [] := List.eq_nil_of_length_eq_zero h1
    have e2 : d1 = [] := List.eq_nil_of_length_eq_zero h2
    subst e1 e2
    exact ⟨true, b, rfl, h, by simp⟩
  | k :: k1, k2, c :: c1, c2, d :: d1, d2, b, h1, h2, h => by
    simp only [List.cons_append, eqks] at h
    split at h
    · rename_i p hp
      split at h
      · rename_i q hq
        obtain ⟨b1, b2, g1, g2, rfl⟩ := eqks_append k1 k2 c1 c2 d1 d2 q (by simpa using h1) (by simpa using h2) hq
        simp at h
        exact ⟨p && b1, b2, by simp [eqks, hp, g1], g2, by rw [← h, Bool.and_assoc]⟩
      · cases h
    · cases h
  | _ :: _, _, [], _, _, _, _, h1, _, _ => by simp at h1
  | _ :: _, _, _ :: _, _, [], _, _, _, h2, _ => by simp at h2
def flatFs (P : Program) (g : TypeId → Option (List CK)) : Nat → List Field → Option (List CK)
  | _, [] => some []
  | off, f :: fs => if f.name ≠ "_" ∧ f.offset = off then (match g f.type with
    | some ks => if tSize P f.type = some ks.length then (flatFs P g (off + ks.length) fs).map (ks ++ ·) else none
    | none => none) else none
def flatK (P : Program) : Nat → TypeId → Option (List CK)
  | 0, _ => none
  | d + 1, t => match P.underlying t with
    | some .bool => some [.b]
    | some (.int _) => some [.i]
    | some .string => some [.s]
    | some (.struct fs) => if P.stoodInHeld t then none else flatFs P (flatK P d) 0 fs.toList
    | some (.array n e) => match flatK P d e with
      | some ks => if tSize P e = some ks.length then some (List.replicate n ks).flatten else none
      | none => none
    | _ => none
def asV (P : Program) (t : TypeId) (vs : List Value) : Value := if tAgg P t = some true then .agg vs.toArray else vs.getD 0 undef
theorem flat_agg {d : Nat} {t : TypeId} {ks : List CK} (h : flatK P d t = some ks) : ∃ g, tAgg P t = some g ∧ (g = true ∨ ks.length = 1) := by
  cases d with
  | zero => cases h
  | succ d =>
    simp only [flatK] at h
    split at h
    · rename_i hu; simp at h; subst h; exact ⟨false, by simp [tAgg, hu], .inr rfl⟩
    · rename_i k hu; simp at h; subst h; exact ⟨false, by simp [tAgg, hu], .inr rfl⟩
    · rename_i hu; simp at h; subst h; exact ⟨false, by simp [tAgg, hu], .inr rfl⟩
    · rename_i fs hu; exact ⟨true, by simp [tAgg, hu], .inl rfl⟩
    · rename_i n e hu; exact ⟨true, by simp [tAgg, hu], .inl rfl⟩
    · cases h
theorem part_asV {d : Nat} {t : TypeId} {ks : List CK} (h : flatK P d t = some ks) (hn : tSize P t = some ks.length) {vs : Array Value} {off : Nat} (hle : off + ks.length ≤ vs.size) (w : World) :
    (part t vs off).run P w = .ok (asV P t ((vs.toList.drop off).take ks.length)) w := by
  obtain ⟨g, hg, hgn⟩ := flat_agg h
  rw [run_part hg hn hgn hle w]
  unfold asV
  rw [hg]
  cases g <;> simp
theorem CRel.one1 {c : Val} {x : List Value} (h : CRel Γ [c] x) : ∃ v, x = [v] ∧ VRel Γ c v := by
  obtain ⟨v, vs, rfl, h1, -, h3⟩ := h.cons_inv
  have := h3.nil_inv
  subst this
  exact ⟨v, rfl, h1⟩
theorem len_one {l : List Val} (h : l.length = 1) : ∃ c, l = [c] := by
  match l, h with
  | [c], _ => exact ⟨c, rfl⟩
def EqAt (P : Program) (Γ : Gam) (d : Nat) (t : TypeId) (ks : List CK) : Prop :=
  ∀ (xs ys : List Value) (cs ds : List Val) (b : Bool), CRel Γ cs xs → CRel Γ ds ys → cs.length = ks.length → ds.length = ks.length → eqks ks cs ds = some b →
    ∀ d', d ≤ d' → ∀ w, (_root_.Go.Op.equalIn d' t (asV P t xs) (asV P t ys)).run P w = .ok b w
theorem fields_eq {g : TypeId → Option (List CK)} {d : Nat} (hg : ∀ t ks, g t = some ks → flatK P d t = some ks ∧ EqAt P Γ d t ks) (XS YS : Array Value) (CS DS : List Val) (hX : CRel Γ CS XS.toList) (hY : CRel Γ DS YS.toList) :
    ∀ (fs : List Field) (off : Nat) (ks : List CK) (b : Bool), flatFs P g off fs = some ks → CS.length = off + ks.length → DS.length = off + ks.length → eqks ks (CS.drop off) (DS.drop off) = some b →
      ∀ d', d ≤ d' → ∀ w, (_root_.Go.Op.eqFields d' XS YS fs).run P w = .ok b w
  | [], off, ks, b, hf, h1, h2, he, d', hd, w => by
    simp [flatFs] at hf
    subst hf
    rw [List.drop_eq_nil_of_le (by simp at h1; omega), List.drop_eq_nil_of_le (by simp at h2; omega)] at he
    simp [eqks] at he
    subst he
    rfl
  | f :: fs, off, ks, b, hf, h1, h2, he, d', hd, w => by
    simp only [flatFs] at hf
    split at hf
    · rename_i hnm
      obtain ⟨hn, ho⟩ := hnm
      split at hf
      · rename_i k1 hk1
        split at hf
        · rename_i hsz
          obtain ⟨k2, hk2, rfl⟩ := Option.map_eq_some_iff.1 hf
          obtain ⟨hfl, heq⟩ := hg _ _ hk1
          rw [List.length_append] at h1 h2
          have hcx : CS.length = XS.size := by simpa using hX.len
          have hcy : DS.length = YS.size := by simpa using hY.len
          have s1 : CS.drop off = (CS.drop off).take k1.length ++ CS.drop (off + k1.length) := by rw [← List.drop_drop, List.take_append_drop]
          have s2 : DS.drop off = (DS.drop off).take k1.length ++ DS.drop (off + k1.length) := by rw [← List.drop_drop, List.take_append_drop]
          rw [s1, s2] at he
          have l1 : ((CS.drop off).take k1.length).length = k1.length := by simp; omega
          have l2 : ((DS.drop off).take k1.length).length = k1.length := by simp; omega
          obtain ⟨b1, b2, g1, g2, rfl⟩ := eqks_append k1 k2 _ _ _ _ b l1 l2 he
          have ih := fields_eq hg XS YS CS DS hX hY fs (off + k1.length) k2 b2 hk2 (by omega) (by omega) g2 d' hd w
          have e1 := part_asV (P := P) hfl hsz (vs := XS) (off := off) (by omega) w
          have e2 := part_asV (P := P) hfl hsz (vs := YS) (off := off) (by omega) w
          have e3 := heq _ _ _ _ b1 ((hX.drop off).take k1.length) ((hY.drop off).take k1.length) l1 l2 g1 d' hd w
          simp only [_root_.Go.Op.eqFields, if_pos hn, ho, Sem.run_bind, e1, Result.andThen_ok, e2, e3]
          cases b1
          · simp
          · simpa using ih
        · cases hf
      · cases hf
    · cases hf
theorem items_eq {e : TypeId} {ks : List CK} {d : Nat} (hfl : flatK P d e = some ks) (hsz : tSize P e = some ks.length) (heq : EqAt P Γ d e ks) (XS YS : Array Value) (CS DS : List Val) (hX : CRel Γ CS XS.toList) (hY : CRel Γ DS YS.toList) :
    ∀ (m i : Nat) (b : Bool), CS.length = (i + m) * ks.length → DS.length = (i + m) * ks.length → eqks (List.replicate m ks).flatten (CS.drop (i * ks.length)) (DS.drop (i * ks.length)) = some b →
      ∀ d', d ≤ d' → ∀ w, (_root_.Go.Op.eqItems d' e ks.length XS YS (List.range' i m)).run P w = .ok b w
  | 0, i, b, h1, h2, he, d', hd, w => by
    rw [List.drop_eq_nil_of_le (by simp at h1; omega), List.drop_eq_nil_of_le (by simp at h2; omega)] at he
    simp [eqks] at he
    subst he
    rfl
  | m + 1, i, b, h1, h2, he, d', hd, w => by
    have hm : (i + (m + 1)) * ks.length = i * ks.length + ks.length + m * ks.length := by rw [Nat.add_mul, Nat.add_mul]; omega
    have hi1 : (i + 1) * ks.length = i * ks.length + ks.length := by rw [Nat.add_mul]; omega
    have hcx : CS.length = XS.size := by simpa using hX.len
    have hcy : DS.length = YS.size := by simpa using hY.len
    have s1 : CS.drop (i * ks.length) = (CS.drop (i * ks.length)).take ks.length ++ CS.drop ((i + 1) * ks.length) := by rw [hi1, ← List.drop_drop, List.take_append_drop]
    have s2 : DS.drop (i * ks.length) = (DS.drop (i * ks.length)).take ks.length ++ DS.drop ((i + 1) * ks.length) := by rw [hi1, ← List.drop_drop, List.take_append_drop]
    rw [s1, s2, List.replicate_succ, List.flatten_cons] at he
    have l1 : ((CS.drop (i * ks.length)).take ks.length).length = ks.length := by simp; omega
    have l2 : ((DS.drop (i * ks.length)).take ks.length).length = ks.length := by simp; omega
    obtain ⟨b1, b2, g1, g2, rfl⟩ := eqks_append ks _ _ _ _ _ b l1 l2 he
    have ih := items_eq hfl hsz heq XS YS CS DS hX hY m (i + 1) b2 (by rw [h1]; congr 1; omega) (by rw [h2]; congr 1; omega) g2 d' hd w
    have e1 := part_asV (P := P) hfl hsz (vs := XS) (off := i * ks.length) (by omega) w
    have e2 := part_asV (P := P) hfl hsz (vs := YS) (off := i * ks.length) (by omega) w
    have e3 := heq _ _ _ _ b1 ((hX.drop (i * ks.length)).take ks.length) ((hY.drop (i * ks.length)).take ks.length) l1 l2 g1 d' hd w
    simp only [List.range'_succ, _root_.Go.Op.eqItems, Sem.run_bind, e1, Result.andThen_ok, e2, e3]
    cases b1
    · simp
    · simpa using ih
theorem flat_eq : ∀ (d : Nat) (t : TypeId) (ks : List CK), flatK P d t = some ks → EqAt P Γ d t ks
  | 0, _, _, h => by cases h
  | d + 1, t, ks, hf => by
    intro xs ys cs ds b hX hY hc hd he d' hdd w
    obtain ⟨d', rfl⟩ : ∃ k, d' = k + 1 := ⟨d' - 1, by omega⟩
    have hf0 := hf
    simp only [flatK] at hf
    split at hf
    · rename_i hu
      simp at hf
      subst hf
      obtain ⟨c, rfl⟩ := len_one hc
      obtain ⟨c', rfl⟩ := len_one hd
      obtain ⟨v, rfl, hv⟩ := hX.one1
      obtain ⟨v', rfl, hv'⟩ := hY.one1
      have hag : tAgg P t = some false := by simp [tAgg, hu]
      simp only [eqks] at he
      split at he
      · rename_i p hp
        cases c <;> cases c' <;> simp [eqk] at hp
        have e1 := ob hv.u rfl
        have e2 := ob hv'.u rfl
        subst e1 e2
        simp at he
        subst he hp
        simp [asV, hag, run_equalIn_bool w d' t _ _ hu]
      · cases he
    · rename_i k hu
      simp at hf
      subst hf
      obtain ⟨c, rfl⟩ := len_one hc
      obtain ⟨c', rfl⟩ := len_one hd
      obtain ⟨v, rfl, hv⟩ := hX.one1
      obtain ⟨v', rfl, hv'⟩ := hY.one1
      have hag : tAgg P t = some false := by simp [tAgg, hu]
      simp only [eqks] at he
      split at he
      · rename_i p hp
        cases c <;> cases c' <;> simp [eqk] at hp
        rename_i j1 n1 j2 n2
        cases hb : j1.toNat.beq j2.toNat with
        | false => rw [hb] at hp; simp at hp
        | true =>
          have hj := kind_eq hb
          subst hj
          have e1 := oi hv.u rfl
          have e2 := oi hv'.u rfl
          subst e1 e2
          rw [hb] at hp
          simp at hp he
          subst he hp
          simp [asV, hag, run_equalIn_int w d' t _ k _ _ hu]
      · cases he
    · rename_i hu
      simp at hf
      subst hf
      obtain ⟨c, rfl⟩ := len_one hc
      obtain ⟨c', rfl⟩ := len_one hd
      obtain ⟨v, rfl, hv⟩ := hX.one1
      obtain ⟨v', rfl, hv'⟩ := hY.one1
      have hag : tAgg P t = some false := by simp [tAgg, hu]
      simp only [eqks] at he
      split at he
      · rename_i p hp
        cases c <;> cases c' <;> simp [eqk] at hp
        obtain ⟨s1, e1, rfl⟩ := os_ hv.u rfl
        obtain ⟨s2, e2, rfl⟩ := os_ hv'.u rfl
        subst e1 e2
        simp at he
        subst he hp
        simp [asV, hag, run_equalIn_string w d' t _ _ hu, eqB_iff, toList_ba]
      · cases he
    · rename_i fs hu
      split at hf
      · cases hf
      · rename_i hst
        have hag : tAgg P t = some true := by simp [tAgg, hu]
        simp only [asV, hag, if_true]
        have hfo : P.fieldsOf t = fs := by simp [Program.fieldsOf, hu]
        rw [run_equalIn_struct w d' t _ _ (by rw [hfo]; exact hu) (by simpa using hst), hfo]
        exact fields_eq (g := flatK P d) (d := d) (fun t ks h => ⟨h, flat_eq d t ks h⟩) xs.toArray ys.toArray cs ds (by simpa using hX) (by simpa using hY) fs.toList 0 ks b hf (by omega) (by omega) (by simpa using he) d' (by omega) w
    · rename_i n e hu
      split at hf
      · rename_i k1 hk1
        split at hf
        · rename_i hsz
          simp at hf
          subst hf
          have hag : tAgg P t = some true := by simp [tAgg, hu]
          simp only [asV, hag, if_true]
          obtain ⟨ie, hie, hies⟩ := Option.map_eq_some_iff.1 (show (P.info? e).map (·.size) = some k1.length from hsz)
          have hco : P.cellsOf e = k1.length := by simp [Program.cellsOf, hie, hies]
          rw [run_equalIn_array w d' _ _ hu hie, hco, List.range_eq_range']
          have hlen : (List.replicate n k1).flatten.length = n * k1.length := by simp
          exact items_eq hk1 hsz (flat_eq d e k1 hk1) xs.toArray ys.toArray cs ds (by simpa using hX) (by simpa using hY) n 0 b (by rw [hc, hlen]; simp) (by rw [hd, hlen]; simp) (by simpa using he) d' (by omega) w
        · cases hf
      · cases hf
    · cases hf
end Go.AM
