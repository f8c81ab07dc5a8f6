import Derived.Test.YtfpkdeokpomocaaAMSum
import Derived.Lib.Repeat
import Derived.Lib.Join
set_option linter.constructorNameAsVariable false
set_option linter.unusedVariables false
set_option linter.unusedSimpArgs false
set_option linter.unusedVariables false
set_option linter.unusedSimpArgs false
namespace Go.AM
open Go Go.RowKit
variable {P : Program}
def repB : Nat → List UInt8 → List UInt8
  | 0, _ => []
  | n + 1, s => s ++ repB n s
def pRepeat : List Val → Heap → R
  | [.str s, .int .i64 n], h => bif decide (0 ≤ n) && decide (s.length * n.toNat ≤ 140737488355328) && decide (n ≤ 9223372036854775807) then some (.str (repB n.toNat s), h) else none
  | _, _ => none
def joinB (sep : List UInt8) : List Val → Option (List UInt8)
  | [] => some []
  | [.str s] => some s
  | .str s :: v :: l => match joinB sep (v :: l) with
    | some r => some (s ++ (sep ++ r))
    | none => none
  | _ => none
def joinR (l : List Val) (sep : List UInt8) (h : Heap) : R :=
  match joinB sep l with
  | some s => bif decide (s.length ≤ 140737488355328) && decide (l.length ≤ 140737488355328) then some (.str s, h) else none
  | none => none
def pJoin : List Val → Heap → R
  | [.sl _ _ l, .str sep], h => joinR l sep h
  | [.ms b o n c _, .str sep], h => match h.at b o n with
    | some l => bif n.ble c then joinR l sep h else none
    | none => none
  | _, _ => none
theorem repB_eq (s : List UInt8) : ∀ n, repB n s = Lib.repeatL s n
  | 0 => rfl
  | n + 1 => by simp [repB, Lib.repeatL, repB_eq s n]
theorem HRel.below {Γ : Gam} {h : Heap} {w w' : World} {N : Nat} (hh : HRel Γ h w N) (hb : Below w.heap.size w w') : HRel Γ h w' N := by
  have hblk : ∀ B, B < w.heap.size → w'.heap[B]? = w.heap[B]? := fun B hB => hb.block B hB
  refine ⟨hh.lt, hh.bllt, fun B r hr => ?_, fun B o v hv => ⟨?_, (hh.prok B o v hv).2⟩, hh.tklt, fun b l hbl => ?_, fun t n ht => ?_, hh.maps⟩
  · have := hh.rolt B r hr
    exact ⟨this.1, Nat.lt_of_lt_of_le this.2 hb.size⟩
  · have := (hh.prok B o v hv).1
    have hlt : B < w.heap.size := by
      cases hc : decide (B < w.heap.size) with
      | true => simpa using hc
      | false =>
        exfalso
        have hn : w.heap[B]? = none := by simpa using hc
        unfold World.cell? at this
        simp [hn] at this
    rw [hb.cell (p := ⟨B, o, none⟩) hlt]; exact this
  · obtain ⟨B, c, e, fr, k1, k2, k3, k4⟩ := hh.cells b l hbl
    exact ⟨B, c, e, fr, k1, by rw [hblk B (lt_of_heap k2)]; exact k2, k3, k4⟩
  · obtain ⟨B, q, c, z, arr, e, fr, k1, k2, k3, k4, k5⟩ := hh.toks t n ht
    exact ⟨B, q, c, z, arr, e, fr, k1, by rw [hblk B (lt_of_heap k2)]; exact k2, k3, k4, k5⟩
theorem Frame.below {Γ : Gam} {w w' : World} (hb : Below w.heap.size w w') : Frame Γ Γ w w' :=
  ⟨hb.os, hb.tape, hb.output, hb.size, fun B hB _ => hb.block B hB, fun _ _ h => h, fun B o hB _ => rfl⟩
theorem tl1 {α : Type} {l : List α} (h : 1 = l.length) : ∃ a, l = [a] := by
  match l, h with
  | [a], _ => exact ⟨a, rfl⟩
theorem tl2 {α : Type} {l : List α} (h : 2 = l.length) : ∃ a b, l = [a, b] := by
  match l, h with
  | [a, b], _ => exact ⟨a, b, rfl⟩
theorem prim_repeat {f N : Nat} (hf : okFun P f = true) (hc : ∀ (s : ByteArray) (c : Nat) (w : World), c ≤ 9223372036854775807 → s.size * c ≤ 140737488355328 → Calls P f #[.string s, .int .i64 c] w fun e w' => e = .returned (.string ⟨(Lib.repeatL s.data.toList c).toArray⟩) ∧ Below w.heap.size w w') : PrimOk P N f pRepeat := by
  refine ⟨hf, fun args h v h' hk Γ w vs hh hN hr => ?_⟩
  unfold pRepeat at hk
  split at hk
  · rename_i h0 s n
    cases hb : (decide (0 ≤ n) && decide (s.length * n.toNat ≤ 140737488355328) && decide (n ≤ 9223372036854775807)) with
    | false => rw [hb] at hk; cases hk
    | true =>
      rw [hb, cond_true] at hk
      simp only [Option.some.injEq, Prod.mk.injEq] at hk
      obtain ⟨rfl, rfl⟩ := hk
      simp only [Bool.and_eq_true, decide_eq_true_eq] at hb
      obtain ⟨⟨h1, h2⟩, h3⟩ := hb
      obtain ⟨x, y, rfl⟩ := tl2 (by simpa using hr.len)
      obtain ⟨bs, rfl, hbs⟩ := os_ hr.head rfl
      have hy := oi hr.tail.head rfl
      subst hy
      obtain ⟨m, rfl⟩ := Int.eq_ofNat_of_zero_le h1
      have hsz : bs.size = s.length := by rw [← hbs]; rfl
      refine (hc bs m w (by omega) (by rw [hsz]; simpa using h2)).mono fun e w' ⟨he, hw⟩ => ?_
      subst he
      exact ⟨_, Γ, rfl, .refl Γ, .below hw, hh.below hw, (VRel.str _ _ (by simp [repB_eq, hbs])).u⟩
  · cases hk
theorem intercalate_cons2 {α : Type} (sep a b : List α) (l : List (List α)) : sep.intercalate (a :: b :: l) = a ++ (sep ++ sep.intercalate (b :: l)) := by
  simp [List.intercalate, List.intersperse]
theorem joinB_strs {sep : List UInt8} : ∀ {l : List Val} {s : List UInt8}, joinB sep l = some s → ∃ xs : List (List UInt8), l = xs.map Val.str ∧ s = Lib.join xs sep
  | [], s, h => by cases h; exact ⟨[], rfl, rfl⟩
  | [v], s, h => by
    cases v with
    | str x =>
      simp only [joinB, Option.some.injEq] at h
      exact ⟨[x], rfl, by simp [Lib.join, List.intercalate, h]⟩
    | _ => cases h
  | v :: u :: l, s, h => by
    cases v with
    | str x =>
      simp only [joinB] at h
      split at h
      · rename_i r hr
        obtain ⟨xs, h1, h2⟩ := joinB_strs hr
        cases h
        match xs, h1, h2 with
        | y :: ys, h1, h2 =>
          refine ⟨x :: y :: ys, by simp [h1], ?_⟩
          rw [h2, Lib.join, Lib.join, intercalate_cons2]
      · cases h
    | _ => simp [joinB] at h
theorem flat_strs (xs : List (List UInt8)) : (xs.map Val.str).flatMap cells = xs.map Val.str := by
  induction xs with
  | nil => rfl
  | cons x xs ih => simp [List.flatMap_cons, cells, ih]
theorem strs_vals {Γ : Gam} : ∀ (xs : List (List UInt8)) (f : Nat → Value), (∀ i, i < xs.length → VRel Γ ((xs.map Val.str).getD i .unk) (f i)) → ∃ ys : List ByteArray, ys.map (·.data.toList) = xs ∧ ∀ (j : Nat) x, ys[j]? = some x → f j = .string x
  | [], f, _ => ⟨[], rfl, fun j x h => by simp at h⟩
  | x :: xs, f, h => by
    obtain ⟨ys, h1, h2⟩ := strs_vals xs (fun i => f (i + 1)) (fun i hi => by simpa using h (i + 1) (by simpa using hi))
    have h0 := h 0 (by simp)
    obtain ⟨y, h3, h4⟩ := os_ h0.u (l := x) (by simp)
    refine ⟨y :: ys, by simp [h1, h4], fun j z hz => ?_⟩
    cases j with
    | zero => simp at hz; subst hz; exact h3
    | succ j => exact h2 j z (by simpa using hz)
theorem cell_of {w : World} {B i : Nat} {arr : Array Value} {e : TypeId} {fr : Nat × Nat} {v : Value} (h : w.heap[B]? = some (.cells arr e fr)) (hi : i < arr.size) (hv : arr.getD i undef = v) : w.cell? ⟨B, i, none⟩ = some v := by
  subst hv
  simp [World.cell?, h, Array.getD_eq_getD_getElem?, hi]
theorem prim_join {f N : Nat} (hf : okFun P f = true)
    (hc0 : ∀ (a : Option Addr) (c : Nat) (sep : ByteArray) (w : World), Calls P f #[.slice a 0 c, .string sep] w fun e w' => e = .returned (.string ⟨#[]⟩) ∧ w' = w)
    (hc : ∀ (bk o c : Nat) (xs : List ByteArray) (sep : ByteArray) (w : World), (∀ (j : Nat) x, xs[j]? = some x → w.cell? ⟨bk, o + j, none⟩ = some (.string x)) → bk < w.heap.size → xs.length ≤ 140737488355328 → xs.length ≤ c → (Lib.join (xs.map (·.data.toList)) sep.data.toList).length ≤ 140737488355328 →
      Calls P f #[.slice (some ⟨bk, o, none⟩) xs.length c, .string sep] w fun e w' => e = .returned (.string ⟨(Lib.join (xs.map (·.data.toList)) sep.data.toList).toArray⟩) ∧ Below w.heap.size w w') : PrimOk P N f pJoin := by
  have key : ∀ {l : List Val} {sep : List UInt8} {h h' : Heap} {v : Val}, joinR l sep h = some (v, h') → ∃ s xs, v = .str s ∧ h' = h ∧ s.length ≤ 140737488355328 ∧ l.length ≤ 140737488355328 ∧ l = xs.map Val.str ∧ s = Lib.join xs sep := by
    intro l sep h h' v hk
    unfold joinR at hk
    split at hk
    · rename_i s hs
      cases hb : (decide (s.length ≤ 140737488355328) && decide (l.length ≤ 140737488355328)) with
      | false => rw [hb] at hk; cases hk
      | true =>
        rw [hb, cond_true] at hk
        simp only [Option.some.injEq, Prod.mk.injEq] at hk
        obtain ⟨rfl, rfl⟩ := hk
        simp only [Bool.and_eq_true, decide_eq_true_eq] at hb
        obtain ⟨xs, h1, h2⟩ := joinB_strs hs
        exact ⟨s, xs, rfl, rfl, hb.1, hb.2, h1, h2⟩
    · cases hk
  refine ⟨hf, fun args h v h' hk Γ w vs hh hN hr => ?_⟩
  unfold pJoin at hk
  split at hk
  · rename_i h0 ow z l sep
    obtain ⟨s, xs, rfl, rfl, k1, k2, rfl, k4⟩ := key hk
    obtain ⟨x, y, rfl⟩ := tl2 (by simpa using hr.len)
    obtain ⟨bs, rfl, hbs⟩ := os_ hr.tail.head rfl
    have hx := hr.head (by simp)
    generalize e : Val.sl ow z (xs.map Val.str) = u at hx
    cases hx with
    | sl0 w1 z1 c a hw =>
      injection e with e1 e2 e3
      cases xs with
      | cons x xs => cases e3
      | nil =>
        refine (hc0 _ _ _ _).mono fun e w' ⟨he, hw⟩ => ?_
        subst he hw
        exact ⟨_, Γ, rfl, .refl Γ, .refl Γ _, hh, (VRel.str _ _ (by simp [k4, Lib.join, List.intercalate])).u⟩
    | nls z1 =>
      injection e with e1 e2 e3
      cases xs with
      | cons x xs => cases e3
      | nil =>
        refine (hc0 _ _ _ _).mono fun e w' ⟨he, hw⟩ => ?_
        subst he hw
        exact ⟨_, Γ, rfl, .refl Γ, .refl Γ _, hh, (VRel.str _ _ (by simp [k4, Lib.join, List.intercalate])).u⟩
    | sl w1 z1 l1 B o c f hw hcap hz hp hrel =>
      injection e with e1 e2 e3
      subst e3
      rw [flat_strs] at hp hrel
      obtain ⟨ys, q1, q2⟩ := strs_vals xs f (fun i hi => hrel i (by simpa using hi))
      have hlen : ys.length = xs.length := by rw [← q1]; simp
      have hcells : ∀ (j : Nat) x, ys[j]? = some x → w.cell? ⟨B, o + j, none⟩ = some (.string x) := fun j x hj => by
        have hjl : j < ys.length := (List.getElem?_eq_some_iff.1 hj).1
        have := (hh.prok _ _ _ (hp j (by simp; omega)).1).1
        rw [this, q2 j x hj]
      rw [List.length_map, ← hlen]
      by_cases h00 : ys.length = 0
      · have : ys = [] := List.eq_nil_of_length_eq_zero h00
        subst this
        refine (hc0 _ _ _ _).mono fun e w' ⟨he, hw⟩ => ?_
        subst he hw
        have : xs = [] := by rw [← q1]; rfl
        subst this
        exact ⟨_, Γ, rfl, .refl Γ, .refl Γ _, hh, (VRel.str _ _ (by simp [k4, Lib.join, List.intercalate])).u⟩
      · have hB : B < w.heap.size := by
          obtain ⟨y, hy⟩ : ∃ y, ys[0]? = some y := ⟨ys[0]'(by omega), by simp⟩
          have := hcells 0 y hy
          cases hcc : decide (B < w.heap.size) with
          | true => simpa using hcc
          | false =>
            exfalso
            have hn : w.heap[B]? = none := by simpa using hcc
            unfold World.cell? at this
            simp [hn] at this
        refine (hc B o c ys bs w hcells hB (by rw [List.length_map] at k2; omega) (by rw [List.length_map] at hcap; omega) (by rw [q1, hbs, ← k4]; exact k1)).mono fun e w' ⟨he, hw⟩ => ?_
        subst he
        exact ⟨_, Γ, rfl, .refl Γ, .below hw, hh.below hw, (VRel.str _ _ (by simp [k4, q1, hbs])).u⟩
    | _ => cases e
  · rename_i h0 b o n c z sep
    split at hk
    · rename_i l hl
      have hnc : n ≤ c := by
        cases hb : n.ble c with
        | true => exact Nat.le_of_ble_eq_true hb
        | false => rw [hb] at hk; cases hk
      rw [show n.ble c = true from Nat.ble_eq_true_of_le hnc, cond_true] at hk
      obtain ⟨s, xs, rfl, rfl, k1, k2, rfl, k4⟩ := key hk
      obtain ⟨x, y, rfl⟩ := tl2 (by simpa using hr.len)
      obtain ⟨bs, rfl, hbs⟩ := os_ hr.tail.head rfl
      have hx := hr.head (by simp)
      generalize e : Val.ms b o n c z = u at hx
      cases hx with
      | ms b1 o1 n1 c1 z1 c' B hB hc' =>
        injection e with e1 e2 e3 e4 e5
        subst e1 e2 e3 e4
        unfold Heap.at at hl
        split at hl
        · rename_i L hL
          obtain ⟨B', arr, e', fr, j1, j2, j3, j4⟩ := hh.cells _ _ hL
          rw [hB] at j1
          injection j1 with j1
          subst j1
          obtain ⟨M, m1, m2⟩ := Option.bind_eq_some_iff.1 hl
          obtain ⟨m3, m4⟩ := dropN_some m1
          obtain ⟨m5, m6⟩ := takeN_some m2
          have hD : (L.drop o).length = L.length - o := List.length_drop ..
          have hlL : (xs.map Val.str).length = n := by rw [m5, m3, List.length_take, hD]; rw [m3, hD] at m6; omega
          have hle : o + n ≤ L.length := by rw [m3, hD] at m6; omega
          have hsz : L.length ≤ arr.size := j3
          have hget : ∀ i, i < n → (xs.map Val.str).getD i .unk = L.getD (o + i) .unk := fun i hi => by
            rw [m5, m3, List.getD_eq_getElem?_getD, List.getD_eq_getElem?_getD, List.getElem?_take, if_pos hi, List.getElem?_drop]
          obtain ⟨ys, q1, q2⟩ := strs_vals (Γ := Γ) xs (fun i => arr.getD (o + i) undef) (fun i hi => by
            rw [hget i (by rw [List.length_map] at hlL; omega)]
            exact (j4 (o + i) (by rw [List.length_map] at hlL; omega)).1)
          have hlen : ys.length = xs.length := by rw [← q1]; simp
          rw [List.length_map] at hlL
          have hcells : ∀ (j : Nat) x, ys[j]? = some x → w.cell? ⟨B, o + j, none⟩ = some (.string x) := fun j x hj => by
            have hjl : j < ys.length := (List.getElem?_eq_some_iff.1 hj).1
            have := q2 j x hj
            exact cell_of j2 (by omega) this
          have hBl : B < w.heap.size := lt_of_heap j2
          rw [← hlL, ← hlen]
          refine (hc B o c' ys bs w hcells hBl (by rw [List.length_map] at k2; omega) (by omega) (by rw [q1, hbs, ← k4]; exact k1)).mono fun e w' ⟨he, hw⟩ => ?_
          subst he
          exact ⟨_, Γ, rfl, .refl Γ, .below hw, hh.below hw, (VRel.str _ _ (by simp [k4, q1, hbs])).u⟩
        · cases hl
      | _ => cases e
    · cases hk
  · cases hk
end Go.AM
