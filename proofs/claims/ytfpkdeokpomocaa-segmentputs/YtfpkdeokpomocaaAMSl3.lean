import Derived.Test.YtfpkdeokpomocaaAMSl2
set_option linter.constructorNameAsVariable false
set_option linter.unusedVariables false
set_option linter.unusedSimpArgs false
set_option linter.unusedVariables false
set_option linter.unusedSimpArgs false
namespace Go.AM
open Go
variable {P : Program} {N : Nat} {Γ : Gam} {h : Heap} {w : World} {σ : Slots} {a : Act} {o : GOper} {next : Act → World → Prop}
  {Q : _root_.Go.Exit → Act → World → Prop} {r : Val × Heap} {K : Val → Heap → R}
theorem bnd_mk {hi : Nat} {k : IntKind} {m : Int} (h0 : 0 ≤ m) (h1 : m ≤ (hi : Int)) : bnd 0 hi (.int k m) = some m.toNat := by
  have e : (decide (((0 : Nat) : Int) ≤ m) && decide (m ≤ (hi : Int))) = true := by simp [h0, h1]
  simp only [bnd, e, cond_true]
theorem run_bounds {isSlice : Bool} {len cap l e : Nat} {lo hi : Option Val} {lo' hi' : Option Value} (h1 : oRel Γ lo lo') (h2 : oRel Γ hi hi') (n : Nat) (hn : n ≤ cap)
    (he : obnd 0 n len hi = some e) (hl : obnd 0 e 0 lo = some l) (w : World) : (Instr.sliceBounds isSlice len cap lo' hi' none).run P w = .ok (l, e, cap) w ∧ l ≤ e := by
  unfold Instr.sliceBounds
  have h3 : ∀ v, hi = some v → bnd 0 cap v = some e := by
    intro v hv
    subst hv
    simp only [obnd] at he
    obtain ⟨k, m, rfl, g1, g2, rfl⟩ := bnd_some he
    exact bnd_mk (by simpa using g1) (by omega)
  cases hi with
  | none =>
    cases hi' with
    | some _ => exact h2.elim
    | none =>
      simp [obnd] at he
      subst he
      cases lo with
      | none =>
        cases lo' with
        | some _ => exact h1.elim
        | none => simp [obnd] at hl; subst hl; simp
      | some v =>
        cases lo' with
        | none => exact h1.elim
        | some v' =>
          obtain ⟨hr, hle⟩ := run_sliceBound (P := P) h1 hl .sliceB w
          simp [hr, hle]
  | some u =>
    cases hi' with
    | none => exact h2.elim
    | some u' =>
      obtain ⟨hr2, hle2⟩ := run_sliceBound (P := P) h2 (h3 u rfl) (if isSlice then .sliceAcap else .sliceAlen) w
      cases lo with
      | none =>
        cases lo' with
        | some _ => exact h1.elim
        | none => simp [obnd] at hl; subst hl; simp [hr2]
      | some v =>
        cases lo' with
        | none => exact h1.elim
        | some v' =>
          obtain ⟨hr, hle⟩ := run_sliceBound (P := P) h1 hl .sliceB w
          simp [hr, hle, hr2]
theorem run_bounds3 {len cap l e m : Nat} {lo : Option Val} {u mx : Val} {lo' : Option Value} {u' mx' : Value} (h1 : oRel Γ lo lo') (h2 : URel Γ u u') (h3 : URel Γ mx mx') (n : Nat) (hn : n ≤ cap)
    (he : bnd 0 n u = some e) (hl : obnd 0 e 0 lo = some l) (hm : bnd e e mx = some m) (w : World) : (Instr.sliceBounds true len cap lo' (some u') (some mx')).run P w = .ok (l, e, e) w ∧ l ≤ e := by
  obtain ⟨k, q, rfl, g1, g2, rfl⟩ := bnd_some hm
  obtain ⟨k2, q2, rfl, g3, g4, rfl⟩ := bnd_some he
  have hq : q = q2 := by omega
  subst hq
  obtain ⟨hr3, -⟩ := run_sliceBound (P := P) (hi := cap) (n := q.toNat) h3 (bnd_mk (by simpa using g3) (by omega)) .slice3Acap w
  obtain ⟨hr2, -⟩ := run_sliceBound (P := P) (hi := q.toNat) (n := q.toNat) h2 (bnd_mk (by simpa using g3) (by omega)) .slice3B w
  unfold Instr.sliceBounds
  cases lo with
  | none =>
    cases lo' with
    | some _ => exact h1.elim
    | none => simp [obnd] at hl; subst hl; simp [hr2, hr3]
  | some v =>
    cases lo' with
    | none => exact h1.elim
    | some v' =>
      obtain ⟨hr, hle⟩ := run_sliceBound (P := P) h1 hl .slice3C w
      simp [hr, hle, hr2, hr3]
theorem VRel.sl_sub {u : Own} {z : Nat} {l : List Val} {ad : Addr} {n c : Nat} (hx : VRel Γ (.sl u z l) (.slice (some ad) n c)) {x e m : Nat} (hxe : x ≤ e) (hel : e ≤ l.length) (hem : e ≤ m) {u' : Own}
    (hu : u' = .ro ∨ (u' = .ex ∧ m = e)) : VRel Γ (.sl u' z ((l.take e).drop x)) (.slice (if m = x then some ad else some (ad.add (x * z))) (e - x) (m - x)) := by
  by_cases hne : e = x
  · subst hne
    have hnil : (l.take e).drop e = [] := List.drop_eq_nil_of_le (by rw [List.length_take]; omega)
    rw [hnil, Nat.sub_self]
    have key : ∀ ad', VRel Γ (.sl u' z []) (.slice (some ad') 0 (m - e)) := fun ad' => .sl0 _ _ _ _ (by
      rcases hu with hu | ⟨hu, hm⟩
      · exact .inl hu
      · exact .inr ⟨hu, by omega⟩)
    split <;> exact key _
  · have hlne : l ≠ [] := fun e1 => by subst e1; simp at hel; omega
    obtain ⟨B, q, c', f, e1, -, -, hz, hf, hr⟩ := hx.sl_inv hlne
    simp at e1
    obtain ⟨rfl, rfl, rfl⟩ := e1
    rw [if_neg (by omega), addr_add]
    have hlen : ((l.take e).drop x).length = e - x := by simp; omega
    have hz' : ∀ y ∈ (l.take e).drop x, (cells y).length = z := fun y hy => hz y (List.mem_of_mem_take (List.mem_of_mem_drop hy))
    have hfl : ((l.take e).drop x).flatMap cells = ((l.flatMap cells).take (e * z)).drop (x * z) := by
      rw [flat_drop x (fun y hy => hz y (List.mem_of_mem_take hy)), flat_take e hz]
    rw [← hlen]
    have hflen := flat_len hz
    have hez : e * z ≤ l.length * z := Nat.mul_le_mul_right _ hel
    refine .sl u' z _ B (q + x * z) (m - x) (fun i => f (x * z + i)) ?_ (by rw [hlen]; omega) hz' (fun i hi => ?_) (fun i hi => ?_)
    · rcases hu with rfl | ⟨rfl, hm⟩
      · trivial
      · show m - x = _; rw [hlen, hm]
    · rw [hfl] at hi
      simp at hi
      rw [Nat.add_assoc]
      exact hf _ (by omega)
    · rw [hfl] at hi ⊢
      simp at hi
      have := hr (x * z + i) (by omega)
      have hlt : x * z + i < e * z := by omega
      simpa [List.getD_eq_getElem?_getD, List.getElem?_drop, List.getElem?_take, hlt] using this
theorem sd_sll (t e0 : TypeId) (z : Nat) (x : X) (lo hi : Option X) (x' : Operand) (lo' hi' : Option Operand) (ho : o.op = .slice t x' lo' hi' none) (ht : tSl P t = some e0) (hz : tSize P e0 = some z)
    (h1 : okX x x' = true) (h2 : okXo lo lo' = true) (h3 : okXo hi hi' = true) (hs : SRel Γ σ a.tmps) (hh : HRel Γ h w N)
    (hk : sllC z (ev σ x) (evo σ lo) (evo σ hi) (fun v => K v h) = some r) (hc : Cont Γ w N K r a o.dst next) : o.wp P a w next Q := by
  have hx := okX_sound hs h1
  have key : ∀ (ad : Option Addr) (n c l e : Nat), a.eval x' = .slice ad n c → (Instr.sliceBounds true n c (lo'.map a.eval) (hi'.map a.eval) none).run P w = .ok (l, e, c) w →
      (execOp a.eval o).run P w = .ok (.value (.slice (if c = l then ad else ad.map (·.add (l * z))) (e - l) (c - l))) w := by
    intro ad n c l e e1 hr
    simp only [execOp, ho, Instr.sliceAt, Instr.slice, Sem.run_bind, run_underlying (tSl_some ht), Result.andThen_ok, e1, Option.map_none, hr, run_sizeOf hz, Sem.run_pure]
  unfold sllC at hk
  split at hk
  · rename_i u z' l ex
    cases hzz : z.beq z' with
    | false => rw [hzz] at hk; cases hk
    | true =>
      rw [hzz, cond_true] at hk
      have := Nat.eq_of_beq_eq_true hzz
      subst this
      rw [ex] at hx
      have hx' := hx (by simp)
      split at hk
      · rename_i b hb
        split at hk
        · rename_i q l' hq htk
          split at hk
          · rename_i l'' hdr
            obtain ⟨rfl, hbl⟩ := takeN_some htk
            obtain ⟨rfl, -⟩ := dropN_some hdr
            by_cases hnl : u = .nl
            · subst hnl
              obtain ⟨rfl, e1⟩ := hx'.nls_inv
              obtain ⟨hr, hle⟩ := run_bounds (P := P) (isSlice := true) (cap := 0) (okXo_sound hs h2) (okXo_sound hs h3) 0 (Nat.le_refl _) hb hq w
              have hk0 := key none 0 0 q b e1 hr
              simp at hbl
              subst hbl
              have : q = 0 := by omega
              subst this
              refine wp_pure hc hh hk0 ?_ hk
              simpa [ownSl, ownSx] using (VRel.nls z).u
            · obtain ⟨ad, c, e1⟩ := hx'.sl_len
              have hcap : l.length ≤ c := by
                rw [e1] at hx'
                cases hx' with
                | sl0 w z c a h => simp
                | nls z => simp
                | sl w z l B q c f hw hcap hz h1 h2 => exact hcap
              have had : ∃ ad', ad = some ad' := by
                rw [e1] at hx'
                cases hx' with
                | sl0 w z c a h => exact ⟨_, rfl⟩
                | nls z => exact absurd rfl hnl
                | sl w z l B q c f hw hcap hz h1 h2 => exact ⟨_, rfl⟩
              obtain ⟨ad', rfl⟩ := had
              obtain ⟨hr, hle⟩ := run_bounds (P := P) (isSlice := true) (cap := c) (okXo_sound hs h2) (okXo_sound hs h3) l.length hcap hb hq w
              have hk0 := key _ _ _ _ _ e1 hr
              rw [e1] at hx'
              refine wp_pure hc hh hk0 ?_ hk
              have hsub := hx'.sl_sub (m := c) (u' := ownSl u (evo σ hi)) hle hbl (by omega) ?_
              · simpa using hsub.u
              · cases u with
                | nl => exact absurd rfl hnl
                | ro => exact .inl rfl
                | tok t => exact .inl rfl
                | ex =>
                  cases hhi : evo σ hi with
                  | some v => exact .inl rfl
                  | none =>
                    right
                    rw [hhi] at hb
                    simp [obnd] at hb
                    refine ⟨rfl, ?_⟩
                    rw [← hb]
                    cases hx' with
                    | sl0 w z c a h =>
                      rcases h with h | ⟨_, h⟩
                      · cases h
                      · simpa using h
                    | sl w z l B q c f hw hcap hz h1 h2 => exact hw
          · cases hk
        · cases hk
      · cases hk
  · rename_i b q n c z' ex
    cases hzz : z.beq z' with
    | false => rw [hzz] at hk; cases hk
    | true =>
      rw [hzz, cond_true] at hk
      have := Nat.eq_of_beq_eq_true hzz
      subst this
      rw [ex] at hx
      obtain ⟨B, c', e1, hB, hcc⟩ := (hx (by simp)).ms_inv
      split at hk
      · rename_i e he
        split at hk
        · rename_i l hl
          obtain ⟨hr, hle⟩ := run_bounds (P := P) (isSlice := true) (cap := c') (okXo_sound hs h2) (okXo_sound hs h3) c hcc he hl w
          have hk0 := key _ _ _ _ _ e1 hr
          cases hec1 : e.ble c with
          | false => rw [hec1] at hk; cases hk
          | true =>
          rw [hec1, cond_true] at hk
          have hec : e ≤ c := Nat.le_of_ble_eq_true hec1
          cases hlc : l.beq c with
          | true =>
            rw [hlc, cond_true] at hk
            have := Nat.eq_of_beq_eq_true hlc
            subst this
            have : e = l := by omega
            subst this
            refine wp_pure hc hh hk0 ?_ hk
            have key2 : ∀ ad', VRel Γ (.sl .ro z []) (.slice (some ad') 0 (c' - e)) := fun ad' => .sl0 _ _ _ _ (.inl rfl)
            rw [Nat.sub_self]
            split <;> exact (key2 _).u
          | false =>
            rw [hlc, cond_false] at hk
            have hlne : l ≠ c := fun e => by rw [bt e] at hlc; cases hlc
            refine wp_pure hc hh hk0 ?_ hk
            rw [if_neg (by omega)]
            simp only [Option.map_some, addr_add]
            exact (VRel.ms b _ _ _ z _ B hB (by omega)).u
        · cases hk
      · cases hk
  · cases hk
theorem sd_slx (t e0 : TypeId) (z : Nat) (x : X) (lo : Option X) (hi mx : X) (x' : Operand) (lo' : Option Operand) (hi' mx' : Operand) (ho : o.op = .slice t x' lo' (some hi') (some mx')) (ht : tSl P t = some e0) (hz : tSize P e0 = some z)
    (h1 : okX x x' = true) (h2 : okXo lo lo' = true) (h3 : okX hi hi' = true) (h4 : okX mx mx' = true) (hs : SRel Γ σ a.tmps) (hh : HRel Γ h w N)
    (hk : slxC z (ev σ x) (evo σ lo) (ev σ hi) (ev σ mx) (fun v => K v h) = some r) (hc : Cont Γ w N K r a o.dst next) : o.wp P a w next Q := by
  have hx := okX_sound hs h1
  have key : ∀ (ad : Option Addr) (n c l e : Nat), a.eval x' = .slice ad n c → (Instr.sliceBounds true n c (lo'.map a.eval) (some (a.eval hi')) (some (a.eval mx'))).run P w = .ok (l, e, e) w →
      (execOp a.eval o).run P w = .ok (.value (.slice (if e = l then ad else ad.map (·.add (l * z))) (e - l) (e - l))) w := by
    intro ad n c l e e1 hr
    simp only [execOp, ho, Instr.sliceAt, Instr.slice, Sem.run_bind, run_underlying (tSl_some ht), Result.andThen_ok, e1, Option.map_some, hr, run_sizeOf hz, Sem.run_pure]
  unfold slxC at hk
  split at hk
  · rename_i u z' l ex
    cases hzz : z.beq z' with
    | false => rw [hzz] at hk; cases hk
    | true =>
      rw [hzz, cond_true] at hk
      have := Nat.eq_of_beq_eq_true hzz
      subst this
      rw [ex] at hx
      have hx' := hx (by simp)
      split at hk
      · rename_i b hb
        split at hk
        · rename_i q m l' hq hm htk
          split at hk
          · rename_i l'' hdr
            obtain ⟨rfl, hbl⟩ := takeN_some htk
            obtain ⟨rfl, -⟩ := dropN_some hdr
            by_cases hnl : u = .nl
            · subst hnl
              obtain ⟨rfl, e1⟩ := hx'.nls_inv
              obtain ⟨hr, hle⟩ := run_bounds3 (P := P) (len := 0) (cap := 0) (okXo_sound hs h2) (okX_sound hs h3) (okX_sound hs h4) 0 (Nat.le_refl _) hb hq hm w
              have hk0 := key none 0 0 q b e1 hr
              simp at hbl
              subst hbl
              have : q = 0 := by omega
              subst this
              refine wp_pure hc hh hk0 ?_ hk
              simpa [ownSl, ownSx] using (VRel.nls z).u
            · obtain ⟨ad, c, e1⟩ := hx'.sl_len
              have hcap : l.length ≤ c := by
                rw [e1] at hx'
                cases hx' with
                | sl0 w z c a h => simp
                | nls z => simp
                | sl w z l B q c f hw hcap hz h1 h2 => exact hcap
              have had : ∃ ad', ad = some ad' := by
                rw [e1] at hx'
                cases hx' with
                | sl0 w z c a h => exact ⟨_, rfl⟩
                | nls z => exact absurd rfl hnl
                | sl w z l B q c f hw hcap hz h1 h2 => exact ⟨_, rfl⟩
              obtain ⟨ad', rfl⟩ := had
              obtain ⟨hr, hle⟩ := run_bounds3 (P := P) (len := l.length) (cap := c) (okXo_sound hs h2) (okX_sound hs h3) (okX_sound hs h4) l.length hcap hb hq hm w
              have hk0 := key _ _ _ _ _ e1 hr
              rw [e1] at hx'
              refine wp_pure hc hh hk0 ?_ hk
              have hsub := hx'.sl_sub (m := b) (u' := ownSx u) hle hbl (Nat.le_refl _) (.inr ⟨by cases u <;> first | rfl | exact absurd rfl hnl, rfl⟩)
              simpa using hsub.u
          · cases hk
        · cases hk
      · cases hk
  · cases hk
end Go.AM
