import Derived.Test.YtfpkdeokpomocaaAMRow
import Derived.RowKit
import Derived.OpenShut
import Derived.WideShapes
import Derived.ChangeOld
import Derived.WideKeyArgs
set_option linter.constructorNameAsVariable false
set_option linter.unusedVariables false
set_option linter.unusedSimpArgs false
set_option linter.unusedVariables false
set_option linter.unusedSimpArgs false
namespace Go.AM
open Go Go.ChangeShapes Go.WideShapes Go.RowKit
section
variable {H : Type} {enc : TypeId × Value → H} {P : Program} {W : World} {sp : Nat → Bool} {held : Bool}
theorem opn_arg {n : Nat} {t : TypeId} {g : Bool} {ls : List Lf} (hl : lfOf P n t = some (g, ls)) {r : Reach} {b0 : Nat} {v : Value} {d : DataW H} {ps : List MemPlace} (hval : Value.okWide P W r b0 t v)
    (hd : DataW.Trod enc P W 0 sp held t v d ps) : ∃ us, VRel (gam0 W) (mk g us) v ∧ HasL ls us := by
  obtain ⟨fuel, hd⟩ := hd
  obtain ⟨us, hu, hL⟩ := opn n t g ls hl fuel _ _ hd
  refine ⟨us, ?_, hL⟩
  have single : ∀ c, v.cells.toList = [c] → v = c → g = false → VRel (gam0 W) (mk g us) v := fun c h1 h2 h3 => by
    rw [h1] at hu
    subst h3
    match us, hu with
    | [u], hu => rw [h2]; exact hu.head.1
    | [], hu => have := hu.len; simp at this
    | _ :: _ :: _, hu => have := hu.len; simp at this
  cases n with
  | zero => cases hl
  | succ n =>
    simp only [lfOf] at hl
    split at hl
    · rename_i ht
      simp only [Option.some.injEq, Prod.mk.injEq] at hl
      obtain ⟨b, rfl⟩ := okWide_bool ht hval
      exact single _ rfl rfl hl.1.symm
    · rename_i k ht
      simp only [Option.some.injEq, Prod.mk.injEq] at hl
      obtain ⟨b, rfl⟩ := okWide_int ht hval
      exact single _ rfl rfl hl.1.symm
    · rename_i ht
      simp only [Option.some.injEq, Prod.mk.injEq] at hl
      obtain ⟨b, rfl⟩ := okWide_string ht hval
      exact single _ rfl rfl hl.1.symm
    · rename_i fs ht
      split at hl
      · rename_i ls' hfs
        cases hb : ls'.length.beq (P.cellsOf t) with
        | false => rw [hb] at hl; cases hl
        | true =>
          rw [hb, cond_true] at hl
          simp only [Option.some.injEq, Prod.mk.injEq] at hl
          obtain ⟨rfl, rfl⟩ := hl
          simp only [Value.okWide, ht] at hval
          obtain ⟨cs, rfl, -, -⟩ := hval
          have := hu.agg
          simpa [Value.cells, mk] using this
      · cases hl
    · rename_i e ht
      split at hl
      · rename_i g' ls' hle
        cases hb : (ls'.length.beq (P.cellsOf e) && !ls'.length.beq 0 && (g' || ls'.length.beq 1)) with
        | false => rw [hb] at hl; cases hl
        | true =>
          rw [hb, cond_true] at hl
          simp only [Option.some.injEq, Prod.mk.injEq] at hl
          obtain ⟨a, len, cap, rfl⟩ := okWide_slice ht hval
          exact single _ rfl rfl hl.1.symm
      · cases hl
    · cases hl
inductive HasT : List (Bool × List Lf) → List Val → Prop where
  | nil : HasT [] []
  | cons (g : Bool) (ls : List Lf) (as : List (Bool × List Lf)) (us vs : List Val) (h : HasL ls us) (hs : HasT as vs) : HasT ((g, ls) :: as) (mk g us :: vs)
def argsOf (P : Program) : List TypeId → Option (List (Bool × List Lf))
  | [] => some []
  | t :: ts => match lfOf P 20 t, argsOf P ts with
    | some a, some as => some (a :: as)
    | _, _ => none
theorem opn_all {r : Reach} {b0 : Nat} : ∀ {ts : List TypeId} {vs : List Value} {ds : List (DataW H)} {ps : List MemPlace} {as : List (Bool × List Lf)}, argsOf P ts = some as → (∀ (j : Nat) t v, ts[j]? = some t → vs[j]? = some v → Value.okWide P W r b0 t v) →
    DataW.TrodAll enc P W 0 sp held ts vs ds ps → ds.length = ts.length ∧ ∃ us, ARel (gam0 W) us vs ∧ HasT as us
  | [], vs, ds, ps, as, ha, _, hd => by
    obtain ⟨rfl, rfl, rfl⟩ := trodAll_nil hd
    simp only [argsOf, Option.some.injEq] at ha
    subst ha
    exact ⟨rfl, [], .nil _, .nil⟩
  | t :: ts, vs, ds, ps, as, ha, hval, hd => by
    obtain ⟨v, vs1, d, ds1, a, b, rfl, rfl, rfl, h1, h2⟩ := trodAll_cons hd
    simp only [argsOf] at ha
    split at ha
    · rename_i a' as' e1 e2
      simp only [Option.some.injEq] at ha
      subst ha
      obtain ⟨g, ls⟩ := a'
      obtain ⟨us, hu, hL⟩ := opn_arg e1 (hval 0 t v rfl rfl) h1
      obtain ⟨hl, us2, hu2, hT⟩ := opn_all e2 (fun j t v h3 h4 => hval (j + 1) t v (by simpa using h3) (by simpa using h4)) h2
      exact ⟨by simp [hl], mk g us :: us2, .cons hu.u hu2, .cons _ _ _ _ _ hL hT⟩
    · cases ha
 end
theorem below_of {Δ : Gam} {W W' : World} (h : Frame (gam0 W) Δ W W') : Below W.heap.size W W' :=
  ⟨h.os, h.tape, h.output, h.size, fun k hk => h.block k hk rfl⟩
theorem stays_all {H : Type} {enc : TypeId × Value → H} {P : Program} (hl : laidOutB P = true) {W W' : World} {sp' : Nat → Bool} : ∀ {ts : List TypeId} {vs : List Value} {ds : List (DataW H)} {ps : List MemPlace}, (∀ t ∈ ts, P.readableRec t = true ∧ t < P.types.size) →
    DataW.TrodAll enc P W 0 (fun _ => true) true ts vs ds ps → (∀ p ∈ ps, W.sameAt W' p) → (∀ p ∈ ps, sp' p.block = true) → DataW.TrodAll enc P W' 0 sp' true ts vs ds ps
  | [], vs, ds, ps, _, hd, _, _ => by
    obtain ⟨rfl, rfl, rfl⟩ := trodAll_nil hd
    rfl
  | t :: ts, vs, ds, ps, ht, hd, hs, hp => by
    obtain ⟨v, vs1, d, ds1, a, b, rfl, rfl, rfl, h1, h2⟩ := trodAll_cons hd
    have htt := ht t List.mem_cons_self
    exact trodAll_cons_mk (WideElems.Trod_stays hl htt.1 htt.2 h1 (fun p h => hs p (List.mem_append_left _ h)) (fun p h => hp p (List.mem_append_left _ h)))
      (stays_all hl (fun t h => ht t (List.mem_cons_of_mem _ h)) h2 (fun p h => hs p (List.mem_append_right _ h)) (fun p h => hp p (List.mem_append_right _ h)))
theorem post_law {H : Type} {enc : TypeId × Value → H} {P : Program} {f : Func} {s : ChangeSpec} {fresh handsOn again : Bool} {W W' : World} {args : Array Value} {tb : TypeId} {ds gs : List (DataW H)} {before : List MemPlace}
    (hlo : laidOutB P = true) (hrd : ∀ t ∈ f.params.toList, P.readableRec t = true ∧ t < P.types.size) (hrt : f.resultTypes = #[tb]) (htb : P.underlying tb = some .bool) (hvars : s.vars = []) (hs : ∀ ds : List (DataW H), ds.length = f.params.size → (s.fn H ds).args = ds ∧ (s.fn H ds).results = [.lit (.bool true)] ∧ (s.fn H ds).vars = [])
    (hlen : ds.length = f.params.size) (hW : DataW.Whole enc P f.params.toList s.vars false W args.toList ds gs before) (hb : Below W.heap.size W W') :
    s.post enc P f false fresh handsOn again W args (.bool true) W' := by
  have hlt : ∀ p ∈ before, p.block < W.heap.size := fun p hp => hW.lt p hp
  have hW' := hW
  obtain ⟨p, q, hA, hV, hpq, hz, hn⟩ := hW
  rw [hvars] at hV
  obtain ⟨rfl, rfl⟩ := trodVars_none hV
  simp only [List.append_nil] at hpq
  subst hpq
  obtain ⟨h1, h2, h3⟩ := hs (ds ++ []) (by simpa using hlen)
  have hold : ∀ p ∈ before, (fun b => decide (b < W.heap.size)) p.block = true := fun p hp => by simpa using hlt p hp
  have hargs : ∀ sp : Nat → Bool, (∀ p ∈ before, sp p.block = true) → DataW.TrodAll enc P W' 0 sp true f.params.toList args.toList (s.fn H (ds ++ [])).args before := fun sp hsp => by
    rw [h1, List.append_nil]
    exact stays_all hlo hrd hA (fun p hp => hb.same (hlt p hp)) hsp
  have hres : ∀ (b : Nat) (sp : Nat → Bool) (hd : Bool), DataW.TrodAll enc P W' b sp hd f.resultTypes.toList ((Value.bool true).resultList f.resultTypes.size) (s.fn H (ds ++ [])).results [] := fun b sp hd => by
    rw [h2, hrt]
    exact trodAll_cons_mk (p := []) (shut_bool htb true) rfl
  have hvs : ∀ sp : Nat → Bool, DataW.TrodVars enc P W' sp s.vars (s.fn H (ds ++ [])).vars [] := fun sp => by
    rw [h3, hvars]; rfl
  refine ⟨ds, [], before, [], before, [], hW', hres _ _ _, hargs _ hold, hvs _, World.keptBut_mono (fun p hp => ⟨hp, ?_⟩) (hb.frame (· ∈ before)), fun _ => ?_⟩
  · exact Or.inr (.inl hp)
  · refine ⟨ok_one hrt rfl (okWide_bool_mk htb true), _, _, ([] ++ before) ++ [], ⟨[] ++ before, [], trodAll_append (hargs _ (fun _ _ => rfl)) (hres _ _ _), hvs _, rfl, ?_, ?_⟩, ?_⟩
    · intro b off hp
      have hin : MemPlace.cell b off ∈ before := by simpa using hp
      rw [hb.frozen (hlt _ hin)]
      exact hz b off hin
    · intro ha
      cases ha
    · intro p hp _
      simpa using hp
end Go.AM
