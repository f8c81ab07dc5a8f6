import Derived.Test.YtfpkdeokpomocaaMNil2
set_option linter.constructorNameAsVariable false
set_option maxRecDepth 1000000
set_option linter.unusedVariables false
set_option linter.unusedSimpArgs false
namespace Go.AM.T
open Go Go.AM
def argsN : List (Bool × List Lf) := [(false, [.i .i64])]
theorem argsN_eq : argsOf Q Go.Proofs.Try.f10.params.toList = some argsN := by kernel_rfl
theorem gd_cm (g : Val) (b : Bool) (h : Heap) (a c : Val) (op : COp) (K : Val → Heap → R) :
    (gdC g b h (fun k => k a h) fun x h => gdC g b h (fun k => cmC op x c fun y => k y h) K) = gdC g b h (fun k => cmC op a c fun y => k y h) K := by
  cases g with
  | bool q => cases q <;> cases b <;> rfl
  | tup l => cases l <;> rfl
  | _ => rfl
theorem all_neg (a : Int) (ha : a ≤ 0) (v : Val) (h : Heap) (m : Nat) (K : Val → Heap → R) : clC (runS fn (m + 1)) 55 [v, .int .i64 a] h K = clC (runS fn (m + 1)) 55 [v, .int .i64 0] h K := by
  have e : runS fn (m + 1) 55 [v, .int .i64 a] h = runS fn (m + 1) 55 [v, .int .i64 0] h := by
    show s55 (runS fn m) m v (.int .i64 a) h = s55 (runS fn m) m v (.int .i64 0) h
    have h1 : max a 0 = 0 := by omega
    have h2 : max (0 : Int) 0 = 0 := rfl
    simp only [s55, mxC_i, h1, h2]
  unfold clC
  rw [e]
theorem lit0 : ∃ h', runS fn 300 10 [.int .i64 0] heap0 = some (.bool true, h') := ex_of (by kernel_rfl)
theorem lit1 : ∃ h', runS fn 300 10 [.int .i64 1] heap0 = some (.bool true, h') := ex_of (by kernel_rfl)
theorem lit2 : ∃ h', runS fn 300 10 [.int .i64 2] heap0 = some (.bool true, h') := ex_of (by kernel_rfl)
theorem lit3 : ∃ h', runS fn 300 10 [.int .i64 3] heap0 = some (.bool true, h') := ex_of (by kernel_rfl)
theorem lit4 : ∃ h', runS fn 300 10 [.int .i64 4] heap0 = some (.bool true, h') := ex_of (by kernel_rfl)
theorem lit5 : ∃ h', runS fn 300 10 [.int .i64 5] heap0 = some (.bool true, h') := ex_of (by kernel_rfl)
theorem lit6 : ∃ h', runS fn 300 10 [.int .i64 6] heap0 = some (.bool true, h') := ex_of (by kernel_rfl)
theorem lit7 : ∃ h', runS fn 300 10 [.int .i64 7] heap0 = some (.bool true, h') := ex_of (by kernel_rfl)
theorem lit8 : ∃ h', runS fn 300 10 [.int .i64 8] heap0 = some (.bool true, h') := ex_of (by kernel_rfl)
theorem litg (a : Int) (ha : 9 ≤ a) : ∃ h', runS fn 300 10 [.int .i64 a] heap0 = some (.bool true, h') := by
  show ∃ h', s10 (runS fn 299) 299 (.int .i64 a) heap0 = some (.bool true, h')
  have e1 : min a 9 = 9 := by omega
  have e2 : icmp .gt a 6 = true := decide_eq_true (by omega)
  have e3 : icmp .le a 6 = false := decide_eq_false (by omega)
  simp only [s10, gd_cm, cmC_int, mnC_i, e1, e2, e3]
  exact ex_of (by kernel_rfl)
theorem litn (a : Int) (ha : a ≤ 0) : ∃ h', runS fn 300 10 [.int .i64 a] heap0 = some (.bool true, h') := by
  show ∃ h', s10 (runS fn 299) 299 (.int .i64 a) heap0 = some (.bool true, h')
  have e1 : min a 9 = a := by omega
  have e2 : icmp .gt a 6 = false := decide_eq_false (by omega)
  have e3 : icmp .le a 6 = true := decide_eq_true (by omega)
  simp only [s10, gd_cm, cmC_int, mnC_i, e1, e2, e3, all_neg a ha]
  exact ex_of (by kernel_rfl)
theorem law_scannil (us : List Val) (hT : HasT argsN us) : ∃ n h', run tn.get n 10 us heap0 = some (.bool true, h') := by
  cases hT with | cons _ _ _ us0 vs0 hL0 hT =>
  cases hT
  cases hL0 with | cons _ _ v0 _ h0 hL0 =>
  cases hL0
  cases h0 with | i _ a _ =>
  refine ⟨300, ?_⟩
  rw [← runS_eq sim_fn]
  show ∃ h', runS fn 300 10 [.int .i64 a] heap0 = some (.bool true, h')
  by_cases h1 : a ≤ 0
  · exact litn a h1
  by_cases h2 : 9 ≤ a
  · exact litg a h2
  have h3 : a = 1 ∨ a = 2 ∨ a = 3 ∨ a = 4 ∨ a = 5 ∨ a = 6 ∨ a = 7 ∨ a = 8 := by omega
  rcases h3 with rfl | rfl | rfl | rfl | rfl | rfl | rfl | rfl
  · exact lit1
  · exact lit2
  · exact lit3
  · exact lit4
  · exact lit5
  · exact lit6
  · exact lit7
  · exact lit8
end Go.AM.T
