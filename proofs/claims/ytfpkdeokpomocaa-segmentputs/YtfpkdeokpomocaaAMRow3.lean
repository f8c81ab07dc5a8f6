import Derived.Test.YtfpkdeokpomocaaAMRow2
set_option linter.constructorNameAsVariable false
set_option linter.unusedVariables false
set_option linter.unusedSimpArgs false
set_option linter.unusedVariables false
set_option linter.unusedSimpArgs false
namespace Go.AM
open Go Go.ChangeShapes Go.WideShapes Go.RowKit
theorem law_contract {P : Program} {f : FuncId} {fn : Func} {s : ChangeSpec} {tb : TypeId} {tbl : Nat → Option Fn} {as : List (Bool × List Lf)} (hcall : ∀ N n, CallOk P N (run tbl n))
    (hlo : laidOutB P = true) (hrd : ∀ t ∈ fn.params.toList, P.readableRec t = true ∧ t < P.types.size) (hrt : fn.resultTypes = #[tb]) (htb : P.underlying tb = some .bool) (hvars : s.vars = [])
    (hs : ∀ (H : Type) (ds : List (DataW H)), ds.length = fn.params.size → (s.fn H ds).args = ds ∧ (s.fn H ds).results = [.lit (.bool true)] ∧ (s.fn H ds).vars = []) (has : argsOf P fn.params.toList = some as)
    (law : ∀ us, HasT as us → ∃ n h', run tbl n f us heap0 = some (.bool true, h'))
    (H : Type) (enc : TypeId × Value → H) (W : World) (base : Nat) (args : Array Value) (ds gs : List (DataW H)) (before : List MemPlace)
    (hval : ∀ (j : Nat) t v, fn.params[j]? = some t → args[j]? = some v → Value.okWide P W .any base t v)
    (hW : DataW.Whole enc P fn.params.toList s.vars false W args.toList ds gs before) :
    Calls P f args W fun e W' => ∃ v, e = .returned v ∧ s.post enc P fn false true false false W args v W' := by
  have hW' := hW
  obtain ⟨p, q, hA, -, -, -, -⟩ := hW
  obtain ⟨hlen, us, hu, hT⟩ := opn_all has (fun j t v h1 h2 => hval j t v (by simpa using h1) (by simpa using h2)) hA
  obtain ⟨n, h', hrun⟩ := law us hT
  have hc := (hcall W.heap.size n).ok f us heap0 (.bool true) h' hrun (gam0 W) W args.toList (hrel0 W) (Nat.le_refl _) hu
  rw [Array.toArray_toList] at hc
  refine hc.mono fun e W' he => ?_
  obtain ⟨x, Δ, rfl, -, hfr, -, hv⟩ := he
  have hx := ob hv rfl
  subst hx
  exact ⟨_, rfl, post_law hlo hrd hrt htb hvars (fun ds h => hs H ds h) (by simpa using hlen) hW' (below_of hfr)⟩
end Go.AM
