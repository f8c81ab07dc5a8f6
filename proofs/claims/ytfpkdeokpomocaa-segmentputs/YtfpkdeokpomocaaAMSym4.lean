import Derived.Test.YtfpkdeokpomocaaAMSym3
set_option linter.constructorNameAsVariable false
set_option linter.unusedVariables false
set_option linter.unusedSimpArgs false
set_option linter.unusedVariables false
namespace Go.AM
open Go
section
variable {K : Val → R} {K2 : Val → Heap → R} {K0 : Heap → R} {h h' : Heap}
@[congr] theorem g_pick {c c' a b : Val} (e0 : c = c') : pickC c a b K = pickC c' a b K := by subst_vars; rfl
@[congr] theorem g_ld {g : Bool} {n : Nat} {x x' : Val} (e0 : x = x') : ldC g n x h K = ldC g n x' h K := by subst_vars; rfl
@[congr] theorem g_st {n : Nat} {x x' y y' : Val} (e0 : x = x') (e1 : y = y') : stC n x y h K0 = stC n x' y' h K0 := by subst_vars; rfl
@[congr] theorem g_box {n : Nat} {x x' : Val} (e0 : x = x') : boxC n x h K2 = boxC n x' h K2 := by subst_vars; rfl
@[congr] theorem g_nil {x x' : Val} (e0 : x = x') : nilC x K = nilC x' K := by subst_vars; rfl
@[congr] theorem g_fa {n : Nat} {x x' : Val} (e0 : x = x') : faC n x K = faC n x' K := by subst_vars; rfl
@[congr] theorem g_bi {op : IOp} {x x' y y' : Val} (e0 : x = x') (e1 : y = y') : biC op x y K = biC op x' y' K := by subst_vars; rfl
@[congr] theorem g_sh {op : IOp} {x x' y y' : Val} (e0 : x = x') (e1 : y = y') : shC op x y K = shC op x' y' K := by subst_vars; rfl
@[congr] theorem g_cm {op : COp} {x x' y y' : Val} (e0 : x = x') (e1 : y = y') : cmC op x y K = cmC op x' y' K := by subst_vars; rfl
@[congr] theorem g_ce {k : CK} {b : Bool} {x x' y y' : Val} (e0 : x = x') (e1 : y = y') : ceC k b x y K = ceC k b x' y' K := by subst_vars; rfl
@[congr] theorem g_cea {k : List CK} {b : Bool} {x x' y y' : Val} (e0 : x = x') (e1 : y = y') : ceaC k b x y K = ceaC k b x' y' K := by subst_vars; rfl
@[congr] theorem g_css {x x' : Val} (e0 : x = x') : cssC x K = cssC x' K := by subst_vars; rfl
@[congr] theorem g_not {x x' : Val} (e0 : x = x') : notC x K = notC x' K := by subst_vars; rfl
@[congr] theorem g_neg {x x' : Val} (e0 : x = x') : negC x K = negC x' K := by subst_vars; rfl
@[congr] theorem g_cpl {x x' : Val} (e0 : x = x') : cplC x K = cplC x' K := by subst_vars; rfl
@[congr] theorem g_lens {x x' : Val} (e0 : x = x') : lensC x K = lensC x' K := by subst_vars; rfl
@[congr] theorem g_lenl {x x' : Val} (e0 : x = x') : lenlC x K = lenlC x' K := by subst_vars; rfl
@[congr] theorem g_cap {x x' : Val} (e0 : x = x') : capC x K = capC x' K := by subst_vars; rfl
@[congr] theorem g_cvi {k : IntKind} {x x' : Val} (e0 : x = x') : cviC k x K = cviC k x' K := by subst_vars; rfl
@[congr] theorem g_cvs {x x' : Val} (e0 : x = x') : cvsC x h K = cvsC x' h K := by subst_vars; rfl
@[congr] theorem g_cvb {x x' : Val} (e0 : x = x') : cvbC x h K2 = cvbC x' h K2 := by subst_vars; rfl
@[congr] theorem g_adds {x x' y y' : Val} (e0 : x = x') (e1 : y = y') : addSC x y K = addSC x' y' K := by subst_vars; rfl
@[congr] theorem g_sls {a a' b b' : Option Val} {x x' : Val} (e0 : x = x') (e1 : a = a') (e2 : b = b') : slsC x a b K = slsC x' a' b' K := by subst_vars; rfl
@[congr] theorem g_sll {n : Nat} {a a' b b' : Option Val} {x x' : Val} (e0 : x = x') (e1 : a = a') (e2 : b = b') : sllC n x a b K = sllC n x' a' b' K := by subst_vars; rfl
@[congr] theorem g_slx {n : Nat} {a a' : Option Val} {x x' y y' z z' : Val} (e0 : x = x') (e1 : a = a') (e2 : y = y') (e3 : z = z') : slxC n x a y z K = slxC n x' a' y' z' K := by subst_vars; rfl
@[congr] theorem g_sla {n m : Nat} {a a' b b' : Option Val} {x x' : Val} (e0 : x = x') (e1 : a = a') (e2 : b = b') : slaC n m x a b K = slaC n m x' a' b' K := by subst_vars; rfl
@[congr] theorem g_ixp {n m : Nat} {x x' y y' : Val} (e0 : x = x') (e1 : y = y') : ixpC n m x y K = ixpC n m x' y' K := by subst_vars; rfl
@[congr] theorem g_ixs {n : Nat} {x x' y y' : Val} (e0 : x = x') (e1 : y = y') : ixsC n x y K = ixsC n x' y' K := by subst_vars; rfl
@[congr] theorem g_ixt {x x' y y' : Val} (e0 : x = x') (e1 : y = y') : ixtC x y K = ixtC x' y' K := by subst_vars; rfl
@[congr] theorem g_ixa {g : Bool} {n m : Nat} {x x' y y' : Val} (e0 : x = x') (e1 : y = y') : ixaC g n m x y K = ixaC g n m x' y' K := by subst_vars; rfl
@[congr] theorem g_fd {g : Bool} {n m : Nat} {x x' : Val} (e0 : x = x') : fdC g n m x K = fdC g n m x' K := by subst_vars; rfl
@[congr] theorem g_ex {n : Nat} {x x' : Val} (e0 : x = x') : exC n x K = exC n x' K := by subst_vars; rfl
@[congr] theorem g_app {g : Bool} {n : Nat} {x x' y y' : Val} (e0 : x = x') (e1 : y = y') : appC g n x y h K2 = appC g n x' y' h K2 := by subst_vars; rfl
@[congr] theorem g_cpy {n : Nat} {x x' y y' : Val} (e0 : x = x') (e1 : y = y') : cpyC n x y h K2 = cpyC n x' y' h K2 := by subst_vars; rfl
@[congr] theorem g_mn {x x' y y' : Val} (e0 : x = x') (e1 : y = y') : mnC x y K = mnC x' y' K := by subst_vars; rfl
@[congr] theorem g_mx {x x' y y' : Val} (e0 : x = x') (e1 : y = y') : mxC x y K = mxC x' y' K := by subst_vars; rfl
@[congr] theorem g_msp {n : Nat} {v : Val} {x x' y y' : Val} (e0 : x = x') (e1 : y = y') : mspC n v x y K = mspC n v x' y' K := by subst_vars; rfl
@[congr] theorem g_msm {n : Nat} {v : Val} {x x' y y' : Val} (e0 : x = x') (e1 : y = y') : msmC n v x y h K2 = msmC n v x' y' h K2 := by subst_vars; rfl
@[congr] theorem g_agg {z : List Val} {l l' : List (Nat × Nat × Val)} (e0 : l = l') : aggC z l K = aggC z l' K := by subst_vars; rfl
@[congr] theorem g_bsl {z : Nat} {l l' : List Val} (e0 : l = l') : bslC z l K = bslC z l' K := by subst_vars; rfl
@[congr] theorem g_cl {call : Call} {f : Nat} {l l' : List Val} (e0 : l = l') : clC call f l h K2 = clC call f l' h K2 := by subst_vars; rfl
@[congr] theorem g_cv {call : Call} {l l' : List Val} {x x' : Val} (e0 : x = x') (e1 : l = l') : cvC call x l h K2 = cvC call x' l' h K2 := by subst_vars; rfl
@[congr] theorem g_gd {b : Bool} {F : (Val → Heap → R) → R} {x x' : Val} (e0 : x = x') : gdC x b h F K2 = gdC x' b h F K2 := by subst_vars; rfl
@[congr] theorem g_cnd {s t : R} {x x' : Val} (e0 : x = x') : cnd x s t = cnd x' s t := by subst_vars; rfl
@[congr] theorem g_mki {t : Nat} {x x' : Val} (e0 : x = x') : mkiC t x K = mkiC t x' K := by subst_vars; rfl
@[congr] theorem g_iter {n : Nat} {F : (List Val → Heap → R) → List Val → Heap → R} {l l' : List Val} (e0 : l = l') : iter n F l h = iter n F l' h := by subst_vars; rfl
@[congr] theorem g_elim {α β : Type} {a a' : Option α} {f : α → Option β} (e : a = a') : a.elim none f = a'.elim none f := by subst e; rfl
@[congr] theorem g_if {p p' : Prop} [Decidable p] [Decidable p'] {a b : R} (e : p = p') : (if p then a else b) = (if p' then a else b) := by subst e; congr
 end
end Go.AM
