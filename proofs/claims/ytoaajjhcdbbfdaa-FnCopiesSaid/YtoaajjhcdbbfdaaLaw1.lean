/- The plain law: what the pure programs compute answers as the statement says. -/
import Derived.Test.YtoaajjhcdbbfdaaFwX
import Derived.Test.YtoaajjhcdbbfdaaPure
set_option linter.unusedSimpArgs false
set_option linter.unnecessarySimpa false
set_option linter.unusedVariables false
namespace Go.Pure
open Go.Abs

theorem w64_eq {x : Int} (h1 : -9223372036854775808 ≤ x) (h2 : x < 9223372036854775808) : w64 x = x := by
  show IntKind.i64.wrap x = x
  have hb : IntKind.i64.bits = 64 := rfl
  simp only [IntKind.wrap, hb]
  have hs : IntKind.i64.signed = true := rfl
  simp only [hs, Bool.true_and, decide_eq_true_eq, ge_iff_le]
  split <;> omega

/-- A loop of told states. -/
theorem loop_nat {σ ρ : Type} {f : σ → Option (Lp σ ρ)} (st : Nat → σ) (n : Nat) {z : ρ} (hm : ∀ k, k < n → f (st k) = some (.more (st (k + 1)))) (hd : f (st n) = some (.done z)) : loopO f (st 0) = some z := by
  have key : ∀ j k, j + k = n → Loops f (st k) z := by
    intro j
    induction j with
    | zero => intro k hk; obtain rfl : k = n := by omega
              exact .done hd
    | succ j ih => intro k hk; exact .more (hm k (by omega)) (ih (k + 1) (by omega))
  exact loop_iff.2 (key n 0 (by omega))

/-- A loop by an invariant. -/
theorem loop_inv {σ ρ : Type} {f : σ → Option (Lp σ ρ)} (I : σ → Prop) (μ : σ → Nat) (Q : ρ → Prop) (hs : ∀ s, I s → (∃ z, f s = some (.done z) ∧ Q z) ∨ ∃ s', f s = some (.more s') ∧ I s' ∧ μ s' < μ s) (s0 : σ) (h0 : I s0) : ∃ z, loopO f s0 = some z ∧ Q z := by
  have key : ∀ n s, I s → μ s ≤ n → ∃ z, Loops f s z ∧ Q z := by
    intro n
    induction n with
    | zero =>
      intro s hi hn
      rcases hs s hi with ⟨z, h1, h2⟩ | ⟨s', h1, h2, h3⟩
      · exact ⟨z, .done h1, h2⟩
      · omega
    | succ n ih =>
      intro s hi hn
      rcases hs s hi with ⟨z, h1, h2⟩ | ⟨s', h1, h2, h3⟩
      · exact ⟨z, .done h1, h2⟩
      · obtain ⟨z, h4, h5⟩ := ih s' h2 (by omega)
        exact ⟨z, .more h1 h4, h5⟩
  obtain ⟨z, h1, h2⟩ := key (μ s0) s0 h0 (Nat.le_refl _)
  exact ⟨z, loop_iff.2 h1, h2⟩

theorem idx_nat {α : Type} {xs : List α} {k : Nat} (h : k < xs.length) : idx xs (k : Int) = some xs[k] := by simp [idx, h]
theorem idx_int {α : Type} {xs : List α} {i : Int} (h0 : 0 ≤ i) (h : i < xs.length) : idx xs i = some (xs[i.toNat]'(by omega)) := by
  unfold idx
  rw [if_pos h0, List.getElem?_eq_getElem (by omega)]
theorem app_ok {α : Type} {xs ys : List α} (h : xs.length + ys.length ≤ 17179869184) : app xs ys = some (xs ++ ys) := by simp [app, h]
theorem mkS_ok {α : Type} {z : α} {n : Nat} (h : n ≤ 17179869184) : mkS z (n : Int) = some (List.replicate n z) := by
  have : (n : Int) ≤ 17179869184 := by omega
  simp [mkS, this]
theorem mkS_int {α : Type} {z : α} {n : Int} (h0 : 0 ≤ n) (h : n ≤ 17179869184) : mkS z n = some (List.replicate n.toNat z) := by simp [mkS, h0, h]
theorem cut_nat {α : Type} {xs : List α} {i j : Nat} (h : i ≤ j) (h2 : j ≤ xs.length) : cut xs (i : Int) (j : Int) = some ((xs.drop i).take (j - i)) := by
  unfold cut
  rw [if_pos ⟨by omega, by omega, by omega⟩]
  congr 2
  omega
theorem need_ok {p : Prop} [Decidable p] (h : p) : need p = some () := by simp [need, h]
theorem need_eq {p : Prop} [Decidable p] (h : p) {β : Type} (f : Unit → Option β) : Option.bind (need p) f = f () := by rw [need_ok h]; rfl

/-- A loop over a list's numbers with one way out, told by tests. -/
theorem loop_all {ρ : Type} {f : Int → Option (Lp Int (Ex Unit ρ))} {n : Nat} {z : ρ} (q : Nat → Bool) (hn : n < 4611686018427387904)
    (hm : ∀ k : Nat, k < n → f (k : Int) = some (if q k then .more (w64 ((k : Int) + 1)) else .done (.out z))) (hd : f (n : Int) = some (.done (.fall ()))) :
    loopO f 0 = some (if (List.range n).all q then .fall () else .out z) := by
  have key : ∀ j k, j + k = n → Loops f (k : Int) (if (List.range' k j).all q then .fall () else .out z) := by
    intro j
    induction j with
    | zero => intro k hk; obtain rfl : k = n := by omega
              simpa using .done hd
    | succ j ih =>
      intro k hk
      have h1 := hm k (by omega)
      cases hq : q k with
      | false =>
        simp only [hq] at h1
        simp only [List.range'_succ, List.all_cons, hq, Bool.false_and]
        exact .done h1
      | true =>
        simp only [hq, if_true] at h1
        rw [w64_eq (by omega) (by omega)] at h1
        simp only [List.range'_succ, List.all_cons, hq, Bool.true_and]
        exact .more h1 (ih (k + 1) (by omega))
  have := key n 0 (by omega)
  rw [List.range_eq_range']
  exact loop_iff.2 this

theorem all_range {α : Type} (xs : List α) (p : α → Bool) : (List.range xs.length).all (fun k => match xs[k]? with | some x => p x | none => true) = xs.all p := by
  rw [Bool.eq_iff_iff]
  simp only [List.all_eq_true, List.mem_range]
  constructor
  · intro h x hx
    obtain ⟨k, hk, rfl⟩ := List.getElem_of_mem hx
    have := h k hk
    rwa [List.getElem?_eq_getElem hk] at this
  · intro h k hk
    rw [List.getElem?_eq_getElem hk]
    exact h _ (List.getElem_mem hk)

/-- All of a list, by a loop. -/
theorem loop_allL {α ρ : Type} {f : Int → Option (Lp Int (Ex Unit ρ))} (xs : List α) {z : ρ} (p : α → Bool) (hn : xs.length < 4611686018427387904)
    (hm : ∀ (k : Nat) (h : k < xs.length), f (k : Int) = some (if p xs[k] then .more (w64 ((k : Int) + 1)) else .done (.out z))) (hd : f (xs.length : Int) = some (.done (.fall ()))) :
    loopO f 0 = some (if xs.all p then .fall () else .out z) := by
  rw [← all_range xs p]
  refine loop_all _ hn (fun k hk => ?_) hd
  rw [hm k hk, List.getElem?_eq_getElem hk]

/-- A fold over a list, by a loop. -/
theorem loop_fold {α β σ ρ : Type} {f : σ → Option (Lp σ ρ)} (xs : List α) (g : β → α → β) (b0 : β) (mk : β → Int → σ) (out : β → ρ)
    (hm : ∀ (k : Nat) (h : k < xs.length), f (mk ((xs.take k).foldl g b0) (k : Int)) = some (.more (mk (g ((xs.take k).foldl g b0) xs[k]) ((k : Int) + 1))))
    (hd : f (mk (xs.foldl g b0) (xs.length : Int)) = some (.done (out (xs.foldl g b0)))) : loopO f (mk b0 0) = some (out (xs.foldl g b0)) := by
  refine loop_nat (fun k => mk ((xs.take k).foldl g b0) (k : Int)) xs.length (fun k hk => ?_) (by simpa using hd)
  have h1 : xs.take (k + 1) = xs.take k ++ [xs[k]] := by rw [List.take_add_one]; simp [hk]
  have h2 : ((k + 1 : Nat) : Int) = (k : Int) + 1 := rfl
  show f (mk ((xs.take k).foldl g b0) (k : Int)) = some (.more (mk ((xs.take (k + 1)).foldl g b0) ((k + 1 : Nat) : Int)))
  rw [hm k hk, h1, List.foldl_append, h2]
  rfl

theorem loop_unfold {σ ρ : Type} {f : σ → Option (Lp σ ρ)} {s : σ} : loopO f s = (f s).bind fun y => match y with | .more s' => loopO f s' | .done z => some z := by
  cases hf : f s with
  | none =>
    cases hl : loopO f s with
    | none => rfl
    | some z =>
      cases loop_iff.1 hl with
      | done h => rw [hf] at h; cases h
      | more h _ => rw [hf] at h; cases h
  | some y =>
    cases y with
    | done z => exact loop_iff.2 (.done hf)
    | more s' =>
      show loopO f s = loopO f s'
      cases hl : loopO f s' with
      | some z => exact loop_iff.2 (.more hf (loop_iff.1 hl))
      | none =>
        cases hl2 : loopO f s with
        | none => rfl
        | some z =>
          cases loop_iff.1 hl2 with
          | done h => rw [hf] at h; cases h
          | more h h3 => rw [hf] at h; cases h; rw [loop_iff.2 h3] at hl; cases hl

end Go.Pure
namespace Go.Pure
open Go.Abs

abbrev Op := Int × (List Int × Unit)
abbrev Al := Int × (List Op × Unit)

def inS (n : Int) (l : List Int) : Bool := l.all fun x => decide (0 ≤ x) && decide (x < n)
def opB (n : Int) (f : Op) : Bool := decide (0 ≤ f.1) && decide (f.1 ≤ 3) && decide ((f.2.1.length : Int) = n ^ f.1.toNat) && inS n f.2.1
def algB (a : Al) : Bool := decide (1 ≤ a.1) && decide (a.1 ≤ 8) && decide (a.2.1.length ≤ 4) && a.2.1.all (opB a.1)

theorem pow_le {n : Int} (h1 : 1 ≤ n) (h8 : n ≤ 8) {k : Nat} (hk : k ≤ 3) : 1 ≤ n ^ k ∧ n ^ k ≤ 512 := by
  have hn : n = 1 ∨ n = 2 ∨ n = 3 ∨ n = 4 ∨ n = 5 ∨ n = 6 ∨ n = 7 ∨ n = 8 := by omega
  have hk : k = 0 ∨ k = 1 ∨ k = 2 ∨ k = 3 := by omega
  rcases hn with rfl | rfl | rfl | rfl | rfl | rfl | rfl | rfl <;> rcases hk with rfl | rfl | rfl | rfl <;> decide

theorem power_eq {n k : Int} (h1 : 1 ≤ n) (h8 : n ≤ 8) (hk0 : 0 ≤ k) (hk : k ≤ 3) : impl_power n k = some (n ^ k.toNat) := by
  unfold impl_power
  have hn : n = 1 ∨ n = 2 ∨ n = 3 ∨ n = 4 ∨ n = 5 ∨ n = 6 ∨ n = 7 ∨ n = 8 := by omega
  have hk : k = 0 ∨ k = 1 ∨ k = 2 ∨ k = 3 := by omega
  rcases hk with rfl | rfl | rfl | rfl <;> rcases hn with rfl | rfl | rfl | rfl | rfl | rfl | rfl | rfl <;>
    (rw [loop_unfold]; simp [w64_eq]; try (rw [loop_unfold]; simp [w64_eq]; try (rw [loop_unfold]; simp [w64_eq]; try (rw [loop_unfold]; simp [w64_eq]))))

theorem l2Pow_eq : spec_l2Pow = impl_power := rfl

theorem inSize_eq {l : List Int} {n : Int} (hl : l.length < 4611686018427387904) : impl_inSize l n = some (inS n l) := by
  unfold impl_inSize
  rw [loop_allL l (z := false) (fun x => decide (0 ≤ x) && decide (x < n)) hl (fun k h => ?_) (by simp)]
  · unfold inS
    cases l.all (fun x => decide (0 ≤ x) && decide (x < n)) <;> rfl
  · have h1 : (k : Int) < (l.length : Int) := by omega
    simp only [h1, decide_true, if_true, idx_nat h, Option.bind_some]
    by_cases h2 : l[k] < 0
    · have h3 : ¬ 0 ≤ l[k] := by omega
      simp [h2, h3]
    · have h3 : 0 ≤ l[k] := by omega
      by_cases h4 : n ≤ l[k]
      · have h5 : ¬ l[k] < n := by omega
        simp [h2, h3, h4, h5]
      · have h5 : l[k] < n := by omega
        simp [h2, h3, h4, h5]

theorem isOp_eq {f : Op} {n : Int} (h1 : 1 ≤ n) (h8 : n ≤ 8) : impl_isOp f n = some (opB n f) := by
  unfold impl_isOp opB
  by_cases ha : 0 ≤ f.1
  · by_cases hb : f.1 ≤ 3
    · have hp := pow_le h1 h8 (k := f.1.toNat) (by omega)
      simp only [ha, hb, decide_true, if_true, power_eq h1 h8 ha hb, Option.bind_some, Bool.true_and]
      by_cases hl : (f.2.1.length : Int) = n ^ f.1.toNat
      · rw [inSize_eq (by omega)]
        simp [hl]
      · simp [hl]
    · simp [ha, hb]
  · simp [ha]

theorem IsAlgebra_eq (a : Al) : impl_IsAlgebra a = some (algB a) := by
  unfold impl_IsAlgebra algB
  by_cases h1 : a.1 < 1
  · have : ¬ 1 ≤ a.1 := by omega
    simp [h1, this]
  by_cases h8 : 8 < a.1
  · have : ¬ a.1 ≤ 8 := by omega
    simp [h1, h8, this]
  by_cases h4 : (4 : Int) < (a.2.1.length : Int)
  · have : ¬ a.2.1.length ≤ 4 := by omega
    simp [h1, h8, h4, this]
  have e1 : 1 ≤ a.1 := by omega
  have e8 : a.1 ≤ 8 := by omega
  have e4 : a.2.1.length ≤ 4 := by omega
  simp only [h1, h8, h4, e1, e8, e4, decide_true, decide_false, Bool.false_eq_true, if_false, Option.bind_some, Bool.true_and]
  rw [loop_allL a.2.1 (z := false) (opB a.1) (by omega) (fun k h => ?_) (by simp)]
  · cases a.2.1.all (opB a.1) <;> rfl
  · have h1 : (k : Int) < (a.2.1.length : Int) := by omega
    simp only [h1, decide_true, if_true, idx_nat h, Option.bind_some, isOp_eq e1 e8]
    cases opB a.1 a.2.1[k] <;> rfl

theorem l1In_eq (x a b : Int) : spec_l1In x a b = some (decide (a ≤ x) && decide (x ≤ b)) := by
  unfold spec_l1In
  by_cases h : a ≤ x <;> simp [h]

theorem l2Op_eq {f : Op} {n : Int} (h1 : 1 ≤ n) (h8 : n ≤ 8) : spec_l2Op n f = some (opB n f) := by
  unfold spec_l2Op opB
  simp only [l1In_eq, Option.bind_some]
  by_cases ha : 0 ≤ f.1
  · by_cases hb : f.1 ≤ 3
    · have hp := pow_le h1 h8 (k := f.1.toNat) (by omega)
      simp only [ha, hb, decide_true, Bool.true_and, Bool.not_true, Bool.false_eq_true, if_false, l2Pow_eq, power_eq h1 h8 ha hb, Option.bind_some]
      by_cases hl : (f.2.1.length : Int) = n ^ f.1.toNat
      · simp only [hl, bne_self_eq_false, Bool.false_eq_true, if_false, decide_true, Bool.true_and]
        rw [loop_allL f.2.1 (z := false) (fun x => decide (0 ≤ x) && decide (x < n)) (by omega) (fun k h => ?_) (by simp [hl])]
        · unfold inS
          cases f.2.1.all (fun x => decide (0 ≤ x) && decide (x < n)) <;> rfl
        · have h2 : (k : Int) < n ^ f.1.toNat := by omega
          have h3 : w64 (n - 1) = n - 1 := w64_eq (by omega) (by omega)
          simp only [h2, decide_true, if_true, idx_nat h, Option.bind_some, h3]
          have h4 : decide (f.2.1[k] ≤ n - 1) = decide (f.2.1[k] < n) := by
            apply decide_eq_decide.2; omega
          rw [h4]
          cases (decide (0 ≤ f.2.1[k]) && decide (f.2.1[k] < n)) <;> rfl
      · simp [hl]
    · simp [ha, hb]
  · simp [ha]

theorem l2Good_eq (a : Al) : spec_l2Good a = some (algB a) := by
  unfold spec_l2Good algB
  simp only [l1In_eq, Option.bind_some]
  by_cases h1 : 1 ≤ a.1
  case neg => simp [h1]
  by_cases h8 : a.1 ≤ 8
  case neg => simp [h8]
  by_cases h4 : (4 : Int) < (a.2.1.length : Int)
  · have : ¬ a.2.1.length ≤ 4 := by omega
    simp [h1, h8, h4, this]
  have e4 : a.2.1.length ≤ 4 := by omega
  simp only [h1, h8, h4, e4, decide_true, decide_false, Bool.and_self, Bool.not_true, Bool.false_eq_true, if_false, Option.bind_some, Bool.true_and]
  rw [loop_allL a.2.1 (z := false) (opB a.1) (by omega) (fun k h => ?_) (by simp)]
  · cases a.2.1.all (opB a.1) <;> rfl
  · have h3 : (k : Int) < (a.2.1.length : Int) := by omega
    simp only [h3, decide_true, if_true, idx_nat h, Option.bind_some, l2Op_eq h1 h8]
    cases opB a.1 a.2.1[k] <;> rfl

def namedB (a : Al) : Bool := algB a && decide (a.1 ≤ 5)
theorem isNamed_eq (a : Al) : impl_isNamed a = some (namedB a) := by
  unfold impl_isNamed namedB
  rw [IsAlgebra_eq]
  cases algB a <;> simp
theorem l31Takes_eq (a : Al) : spec_l31Takes a = some (namedB a) := by
  unfold spec_l31Takes namedB
  rw [l2Good_eq]
  cases algB a <;> simp

end Go.Pure
namespace Go.Pure
open Go.Abs

theorem loop_foldN {α β σ ρ : Type} {f : σ → Option (Lp σ ρ)} (xs : List α) (g : β → α → β) (b0 : β) (mk : β → Int → σ) (out : β → ρ) (hn : xs.length < 4611686018427387904)
    (hm : ∀ (k : Nat) (h : k < xs.length) (b : β), b = (xs.take k).foldl g b0 → f (mk b (k : Int)) = some (.more (mk (g b xs[k]) (w64 ((k : Int) + 1)))))
    (hd : ∀ b, b = xs.foldl g b0 → f (mk b (xs.length : Int)) = some (.done (out b))) : loopO f (mk b0 0) = some (out (xs.foldl g b0)) :=
  loop_fold xs g b0 mk out (fun k h => by rw [hm k h _ rfl, w64_eq (by omega) (by omega)]) (hd _ rfl)

theorem foldl_append_one {α β : Type} (xs : List α) (g : α → β) (b : List β) : xs.foldl (fun acc x => acc ++ [g x]) b = b ++ xs.map g := by
  induction xs generalizing b with
  | nil => simp
  | cons x xs ih => simp [ih]
theorem foldl_append_many {α β : Type} (xs : List α) (g : α → List β) (b : List β) : xs.foldl (fun acc x => acc ++ g x) b = b ++ xs.flatMap g := by
  induction xs generalizing b with
  | nil => simp
  | cons x xs ih => simp [ih]

/-- The digits of a number, the greatest first. -/
def argsD (n : Int) : Nat → Int → List Int
  | 0, _ => []
  | t + 1, i => ((i / n ^ t) % n) :: argsD n t i

theorem argsD_length (n : Int) (k : Nat) (i : Int) : (argsD n k i).length = k := by
  induction k with
  | zero => rfl
  | succ k ih => simp [argsD, ih]

theorem argsAt_eq {n i k : Int} (hn : 1 ≤ n) (hi : 0 ≤ i) (hi2 : i < 4611686018427387904) (hk : 0 ≤ k) (hk2 : k ≤ 1000) : impl_argsAt i k n = some (argsD n k.toNat i) := by
  obtain ⟨k, rfl⟩ : ∃ j : Nat, k = (j : Int) := ⟨k.toNat, by omega⟩
  unfold impl_argsAt
  simp only [mkS_ok (show k ≤ 17179869184 by omega), Option.bind_some, Int.toNat_natCast]
  have hpow : ∀ t : Nat, 0 < n ^ t := fun t => Int.pow_pos (by omega)
  have hdiv : ∀ t : Nat, 0 ≤ i / n ^ t ∧ i / n ^ t ≤ i := fun t => ⟨Int.ediv_nonneg hi (Int.le_of_lt (hpow t)), Int.ediv_le_self _ hi⟩
  have h0 : (((k : Int) - 1 : Int)) = w64 ((k : Int) - 1) := (w64_eq (by omega) (by omega)).symm
  have := loop_nat (f := (fun s17 : Int × (List Int) × Int =>
      if decide ((0 : Int) ≤ s17.2.2) = true then
        Option.bind (need (n ≠ 0)) fun _ =>
        Option.bind (idx s17.2.1 s17.2.2) fun x19 =>
        Option.bind (need (n ≠ 0)) fun _ =>
        some (Lp.more (w64 (s17.1.tdiv n), (s17.2.1.set s17.2.2.toNat (s17.1.tmod n), w64 (s17.2.2 - (1 : Int)))))
      else
        some (Lp.done s17.2.1))) (fun t => (i / n ^ t, (List.replicate (k - t) 0 ++ argsD n t i, (k : Int) - 1 - t))) k (z := argsD n k i) (fun t ht => ?_) ?_
  · simp only [Int.pow_zero, Int.ediv_one, Nat.sub_zero, argsD, List.append_nil, Int.natCast_zero, Int.sub_zero] at this
    rw [h0] at this
    exact congrArg (fun x => Option.bind x some) this
  · have h1 : (0 : Int) ≤ (k : Int) - 1 - t := by omega
    have hne : n ≠ 0 := by omega
    have hlen : (List.replicate (k - t) (0 : Int) ++ argsD n t i).length = k := by simp [argsD_length]; omega
    have hd := hdiv t
    simp only [h1, decide_true, if_true, need_eq hne]
    rw [idx_int h1 (by rw [hlen]; omega)]
    simp only [Option.bind_some, Option.some.injEq, Lp.more.injEq, Prod.mk.injEq]
    refine ⟨?_, ?_, ?_⟩
    · have he : i / (n ^ t * n) = i / n ^ t / n := by
        rw [Int.ediv_ediv]
        have : ¬ n ^ t < 0 := by have := hpow t; omega
        simp [this]
      rw [Int.tdiv_eq_ediv_of_nonneg hd.1, Int.pow_succ, he]
      have h5 : 0 ≤ i / n ^ t / n := Int.ediv_nonneg hd.1 (by omega)
      have h6 : i / n ^ t / n ≤ i / n ^ t := Int.ediv_le_self _ hd.1
      exact w64_eq (by omega) (by omega)
    · rw [Int.tmod_eq_emod_of_nonneg hd.1]
      have h3 : ((k : Int) - 1 - t).toNat = k - t - 1 := by omega
      have h4 : k - t = (k - t - 1) + 1 := by omega
      have h5 : k - (t + 1) = k - t - 1 := by omega
      rw [h3, List.set_append_left _ _ (by simp; omega), h5]
      conv => lhs; rw [h4]
      simp only [List.replicate_succ', Nat.add_sub_cancel]
      rw [List.set_append_right _ _ (by simp)]
      simp [argsD]
    · rw [w64_eq (by omega) (by omega)]; omega
  · have h1 : ¬ (0 : Int) ≤ (k : Int) - 1 - k := by omega
    simp only [h1, decide_false, Bool.false_eq_true, if_false, Nat.sub_self, List.replicate_zero, List.nil_append]

theorem l2Args_eq : spec_l2Args = fun n k i => impl_argsAt i k n := rfl

/-- The number of a list of digits. -/
def idxL (n : Int) (l : List Int) : Int := l.foldl (fun acc x => acc * n + x) 0

theorem indexOf_eq {n : Int} {l : List Int} (h1 : 1 ≤ n) (h8 : n ≤ 8) (hl : l.length ≤ 3) (hr : ∀ x ∈ l, 0 ≤ x ∧ x < n) : impl_indexOf l n = some (idxL n l) := by
  unfold impl_indexOf
  have key : ∀ xs : List Int, xs.length ≤ 3 → (∀ x ∈ xs, 0 ≤ x ∧ x < n) → 0 ≤ idxL n xs ∧ idxL n xs ≤ 511 := by
    intro xs hx hr
    match xs, hx, hr with
    | [], _, _ => simp [idxL]
    | [a], _, hr =>
      have := hr a (by simp)
      simp [idxL]; omega
    | [a, b], _, hr =>
      have h3 := hr a (by simp)
      have h4 := hr b (by simp)
      have h5 : a * n ≤ 7 * 8 := Int.mul_le_mul (by omega) h8 (by omega) (by omega)
      have h6 : 0 ≤ a * n := Int.mul_nonneg h3.1 (by omega)
      simp only [idxL, List.foldl_cons, List.foldl_nil, Int.zero_mul, Int.zero_add]; omega
    | [a, b, c], _, hr =>
      have h3 := hr a (by simp)
      have h4 := hr b (by simp)
      have h7 := hr c (by simp)
      have h5 : a * n ≤ 7 * 8 := Int.mul_le_mul (by omega) h8 (by omega) (by omega)
      have h6 : 0 ≤ a * n := Int.mul_nonneg h3.1 (by omega)
      have h8' : (a * n + b) * n ≤ 63 * 8 := Int.mul_le_mul (by omega) h8 (by omega) (by omega)
      have h9 : 0 ≤ (a * n + b) * n := Int.mul_nonneg (by omega) (by omega)
      simp only [idxL, List.foldl_cons, List.foldl_nil, Int.zero_mul, Int.zero_add]; omega
  rw [loop_foldN l (fun acc x => acc * n + x) 0 (fun b i => (b, i)) id (by omega) (fun k hk b hb => ?_) (fun b hb => ?_)]
  · rfl
  · have h2 : (k : Int) < (l.length : Int) := by omega
    have h3 := key (l.take k) (by simp; omega) (fun x hx => hr x (List.mem_of_mem_take hx))
    have h4 := hr _ (List.getElem_mem hk)
    have h5 : b = idxL n (l.take k) := hb
    rw [← h5] at h3
    have h6 : b * n ≤ 511 * 8 := Int.mul_le_mul h3.2 h8 (by omega) (by omega)
    have h7 : 0 ≤ b * n := Int.mul_nonneg h3.1 (by omega)
    simp only [h2, decide_true, if_true, idx_nat hk, Option.bind_some]
    rw [w64_eq (x := b * n) (by omega) (by omega), w64_eq (x := b * n + l[k]) (by omega) (by omega)]
  · simp

theorem clone_eq {l : List Int} (h : l.length ≤ 17179869184) : impl_clone l = some l := by
  unfold impl_clone
  rw [app_ok (by simpa using h)]
  rfl
theorem l1Own_eq : spec_l1Own = impl_clone := rfl

theorem hasNot_eq {l : List Int} {x : Int} (h : l.length < 4611686018427387904) : impl_hasNot l x = some (!(l.contains x)) := by
  unfold impl_hasNot
  rw [loop_allL l (z := false) (fun y => !(x == y)) h (fun k hk => ?_) (by simp)]
  · have : l.all (fun y => !(x == y)) = !(l.contains x) := by
      rw [Bool.eq_iff_iff]
      simp only [List.all_eq_true, Bool.not_eq_true', ← Bool.not_eq_true, List.contains_iff_mem, beq_iff_eq]
      exact ⟨fun h hx => h x hx rfl, fun h y hy e => h (by rw [e]; exact hy)⟩
    rw [this]
    cases l.contains x <;> rfl
  · have h2 : (k : Int) < (l.length : Int) := by omega
    simp only [h2, decide_true, if_true, idx_nat hk, Option.bind_some]
    cases (x == l[k]) <;> rfl

theorem l1Has_eq {l : List Int} {x : Int} (h : l.length < 4611686018427387904) : spec_l1Has l x = some (l.contains x) := by
  unfold spec_l1Has
  rw [loop_allL l (z := true) (fun y => !(y == x)) h (fun k hk => ?_) (by simp)]
  · have : l.all (fun y => !(y == x)) = !(l.contains x) := by
      rw [Bool.eq_iff_iff]
      simp only [List.all_eq_true, Bool.not_eq_true', ← Bool.not_eq_true, List.contains_iff_mem, beq_iff_eq]
      exact ⟨fun h hx => h x hx rfl, fun h y hy e => h (by rw [← e]; exact hy)⟩
    rw [this]
    cases l.contains x <;> rfl
  · have h2 : (k : Int) < (l.length : Int) := by omega
    simp only [h2, decide_true, if_true, idx_nat hk, Option.bind_some]
    cases (l[k] == x) <;> rfl

theorem all_zip_eq {l m : List Int} (h : l.length = m.length) : ((List.range l.length).all fun k => match l[k]?, m[k]? with | some x, some y => x == y | _, _ => true) = (l == m) := by
  rw [Bool.eq_iff_iff]
  simp only [List.all_eq_true, List.mem_range, beq_iff_eq]
  constructor
  · intro hh
    refine List.ext_getElem h fun k h1 h2 => ?_
    have := hh k h1
    rw [List.getElem?_eq_getElem h1, List.getElem?_eq_getElem h2] at this
    simpa using this
  · rintro rfl k hk
    rw [List.getElem?_eq_getElem hk]
    simp

theorem sameList_eq {l m : List Int} (h : l.length < 4611686018427387904) : impl_sameList l m = some (l == m) := by
  unfold impl_sameList
  by_cases hl : l.length = m.length
  · simp only [hl, bne_self_eq_false, Bool.false_eq_true, if_false]
    rw [← hl, loop_all (z := false) (n := l.length) (fun k => match l[k]?, m[k]? with | some x, some y => x == y | _, _ => true) h (fun k hk => ?_) (by simp), all_zip_eq hl]
    · cases (l == m) <;> rfl
    · have h2 : (k : Int) < (l.length : Int) := by omega
      simp only [h2, decide_true, if_true, idx_nat hk, idx_nat (show k < m.length by omega), Option.bind_some, List.getElem?_eq_getElem hk, List.getElem?_eq_getElem (show k < m.length by omega)]
      by_cases he : l[k] = m[k]
      · simp [he]
      · have : ¬ m[k] = l[k] := fun h => he h.symm
        simp [he, this]
  · have h1 : ((l.length : Int) != (m.length : Int)) = true := by simp; omega
    have h2 : (l == m) = false := by
      rw [beq_eq_false_iff_ne]; intro e; exact hl (by rw [e])
    simp [h1, h2]

theorem l1Same_eq {l m : List Int} (h : l.length < 4611686018427387904) : spec_l1Same l m = some (l == m) := by
  unfold spec_l1Same
  by_cases hl : l.length = m.length
  · simp only [hl, bne_self_eq_false, Bool.false_eq_true, if_false]
    rw [← hl, loop_all (z := false) (n := l.length) (fun k => match l[k]?, m[k]? with | some x, some y => x == y | _, _ => true) h (fun k hk => ?_) (by simp), all_zip_eq hl]
    · cases (l == m) <;> rfl
    · have h2 : (k : Int) < (l.length : Int) := by omega
      simp only [h2, decide_true, if_true, idx_nat hk, idx_nat (show k < m.length by omega), Option.bind_some, List.getElem?_eq_getElem hk, List.getElem?_eq_getElem (show k < m.length by omega)]
      by_cases he : l[k] = m[k] <;> simp [he]
  · have h1 : ((l.length : Int) != (m.length : Int)) = true := by simp; omega
    have h2 : (l == m) = false := by
      rw [beq_eq_false_iff_ne]; intro e; exact hl (by rw [e])
    simp [h1, h2]
theorem rInts_eq : laws_rInts = spec_l1Same := rfl

end Go.Pure
namespace Go.Pure
open Go.Abs

theorem loop_drop {ρ : Type} {f : Int → Option (Lp Int ρ)} {n : Nat} (r : Nat → ρ) (hn : n < 4611686018427387904) (hm : ∀ k : Nat, k < n → f (k : Int) = some (.done (r k)) ∨ (f (k : Int) = some (.more (w64 ((k : Int) + 1))) ∧ r k = r (k + 1)))
    (hd : f (n : Int) = some (.done (r n))) : loopO f 0 = some (r 0) := by
  have key : ∀ j k, j + k = n → Loops f (k : Int) (r k) := by
    intro j
    induction j with
    | zero => intro k hk; obtain rfl : k = n := by omega
              exact .done hd
    | succ j ih =>
      intro k hk
      rcases hm k (by omega) with h1 | ⟨h1, h2⟩
      · exact .done h1
      · rw [w64_eq (by omega) (by omega)] at h1
        rw [h2]
        exact .more h1 (ih (k + 1) (by omega))
  exact loop_iff.2 (key n 0 (by omega))

def codeL (a : Al) : List Int := a.2.1.flatMap (·.2.1)
def typeL (a : Al) : List Int := a.2.1.map (·.1)

theorem algB_size {a : Al} (h : algB a = true) : 1 ≤ a.1 ∧ a.1 ≤ 8 ∧ a.2.1.length ≤ 4 ∧ ∀ f ∈ a.2.1, opB a.1 f = true := by
  simp only [algB, Bool.and_eq_true, decide_eq_true_eq, List.all_eq_true] at h
  exact ⟨h.1.1.1, h.1.1.2, h.1.2, h.2⟩
theorem opB_spec {n : Int} {f : Op} (h : opB n f = true) : 0 ≤ f.1 ∧ f.1 ≤ 3 ∧ (f.2.1.length : Int) = n ^ f.1.toNat ∧ ∀ x ∈ f.2.1, 0 ≤ x ∧ x < n := by
  simp only [opB, inS, Bool.and_eq_true, decide_eq_true_eq, List.all_eq_true] at h
  exact ⟨h.1.1.1, h.1.1.2, h.1.2, h.2⟩
theorem op_len {n : Int} {f : Op} (h1 : 1 ≤ n) (h8 : n ≤ 8) (h : opB n f = true) : f.2.1.length ≤ 512 := by
  obtain ⟨h2, h3, h4, _⟩ := opB_spec h
  have := pow_le h1 h8 (k := f.1.toNat) (by omega)
  omega

theorem code_len {n : Int} (h1 : 1 ≤ n) (h8 : n ≤ 8) : ∀ {ops : List Op}, (∀ f ∈ ops, opB n f = true) → (ops.flatMap (·.2.1)).length ≤ 512 * ops.length
  | [], _ => by simp
  | f :: ops, h => by
    have h2 := op_len h1 h8 (h f (by simp))
    have h3 := code_len h1 h8 (ops := ops) (fun g hg => h g (by simp [hg]))
    simp only [List.flatMap_cons, List.length_append, List.length_cons]
    omega

theorem codeOf_eq {a : Al} (h : algB a = true) : impl_codeOf a = some (codeL a) := by
  obtain ⟨h1, h8, h4, hf⟩ := algB_size h
  unfold impl_codeOf
  rw [loop_foldN a.2.1 (fun acc x => acc ++ x.2.1) [] (fun b i => (b, i)) id (by omega) (fun k hk b hb => ?_) (fun b hb => ?_)]
  · simp only [id]; rw [foldl_append_many, List.nil_append]; rfl
  · have h2 : (k : Int) < (a.2.1.length : Int) := by omega
    have h5 := op_len h1 h8 (hf _ (List.getElem_mem hk))
    have h6 : b.length ≤ 2048 := by
      rw [hb, foldl_append_many, List.nil_append]
      have := code_len h1 h8 (ops := a.2.1.take k) (fun f hf' => hf f (List.mem_of_mem_take hf'))
      have h7 : (a.2.1.take k).length ≤ 4 := by simp; omega
      omega
    simp only [h2, decide_true, if_true, idx_nat hk, Option.bind_some]
    rw [app_ok (by omega)]
    rfl
  · simp
theorem l31Code_eq : spec_l31Code = impl_codeOf := rfl

theorem typeOf_eq {a : Al} (h : a.2.1.length ≤ 4) : impl_typeOf a = some (typeL a) := by
  unfold impl_typeOf
  rw [loop_foldN a.2.1 (fun acc x => acc ++ [x.1]) [] (fun b i => (b, i)) id (by omega) (fun k hk b hb => ?_) (fun b hb => ?_)]
  · simp only [id]; rw [foldl_append_one, List.nil_append]; rfl
  · have h2 : (k : Int) < (a.2.1.length : Int) := by omega
    have h6 : b.length ≤ 4 := by
      rw [hb, foldl_append_one]; simp; omega
    simp only [h2, decide_true, if_true, idx_nat hk, Option.bind_some]
    rw [app_ok (by simp; omega)]
    rfl
  · simp
theorem l2Type_eq : spec_l2Type = impl_typeOf := rfl

theorem op_ext {f g : Op} (h1 : f.1 = g.1) (h2 : f.2.1 = g.2.1) : f = g := by
  obtain ⟨a, b, c⟩ := f
  obtain ⟨a', b', c'⟩ := g
  simp only at h1 h2
  subst h1; subst h2
  rfl
theorem al_ext {a b : Al} (h1 : a.1 = b.1) (h2 : a.2.1 = b.2.1) : a = b := by
  obtain ⟨x, y, z⟩ := a
  obtain ⟨x', y', z'⟩ := b
  simp only at h1 h2
  subst h1; subst h2
  rfl

/-- Size, type and code say all. -/
theorem ops_eq {n : Int} : ∀ {xs ys : List Op}, (∀ f ∈ xs, opB n f = true) → (∀ f ∈ ys, opB n f = true) → xs.map (·.1) = ys.map (·.1) → xs.flatMap (·.2.1) = ys.flatMap (·.2.1) → xs = ys
  | [], [], _, _, _, _ => rfl
  | [], _ :: _, _, _, h, _ => by simp at h
  | _ :: _, [], _, _, h, _ => by simp at h
  | f :: xs, g :: ys, hx, hy, ht, hc => by
    simp only [List.map_cons, List.cons.injEq] at ht
    simp only [List.flatMap_cons] at hc
    have h1 := (opB_spec (hx f (by simp))).2.2.1
    have h2 := (opB_spec (hy g (by simp))).2.2.1
    have hl : f.2.1.length = g.2.1.length := by rw [ht.1] at h1; omega
    obtain ⟨h3, h4⟩ := List.append_inj hc hl
    rw [op_ext ht.1 h3, ops_eq (fun f hf => hx f (by simp [hf])) (fun f hf => hy f (by simp [hf])) ht.2 h4]

theorem same_iff {a b : Al} (ha : algB a = true) (hb : algB b = true) : (a.1 = b.1 ∧ typeL a = typeL b ∧ codeL a = codeL b) ↔ a = b := by
  constructor
  · rintro ⟨h1, h2, h3⟩
    refine al_ext h1 (ops_eq (algB_size ha).2.2.2 ?_ h2 h3)
    rw [h1]; exact (algB_size hb).2.2.2
  · rintro rfl; exact ⟨rfl, rfl, rfl⟩

theorem l31Same_eq {a b : Al} (ha : algB a = true) (hb : algB b = true) : spec_l31Same a b = some (decide (a = b)) := by
  obtain ⟨a1, a8, a4, af⟩ := algB_size ha
  obtain ⟨b1, b8, b4, bf⟩ := algB_size hb
  have hi := same_iff ha hb
  unfold spec_l31Same spec_l2Same
  simp only [l2Type_eq, l31Code_eq, typeOf_eq a4, typeOf_eq b4, codeOf_eq ha, codeOf_eq hb, Option.bind_some]
  have c1 : (typeL a).length < 4611686018427387904 := by simp [typeL]; omega
  have c2 : (codeL a).length < 4611686018427387904 := by have := code_len a1 a8 af; unfold codeL; omega
  rw [l1Same_eq c1, l1Same_eq c2]
  simp only [Option.bind_some]
  by_cases h1 : a.1 = b.1
  · by_cases h2 : typeL a = typeL b
    · by_cases h3 : codeL a = codeL b
      · have := hi.1 ⟨h1, h2, h3⟩
        simp [h1, h2, h3, this]
      · have : ¬ a = b := fun e => h3 (hi.2 e).2.2
        simp [h1, h2, h3, this]
    · have : ¬ a = b := fun e => h2 (hi.2 e).2.1
      simp [h1, h2, this]
  · have : ¬ a = b := fun e => h1 (hi.2 e).1
    simp [h1, this]

theorem sameAlgebra_eq {a b : Al} (ha : algB a = true) (hb : algB b = true) : impl_sameAlgebra a b = some (decide (a = b)) := by
  obtain ⟨a1, a8, a4, af⟩ := algB_size ha
  obtain ⟨b1, b8, b4, bf⟩ := algB_size hb
  unfold impl_sameAlgebra
  by_cases h1 : a.1 = b.1
  case neg =>
    have : ¬ a = b := fun e => h1 (by rw [e])
    simp [h1, this]
  by_cases h2 : a.2.1.length = b.2.1.length
  case neg =>
    have : ¬ a = b := fun e => h2 (by rw [e])
    have h3 : ¬ (a.2.1.length : Int) = b.2.1.length := by omega
    simp [h1, h3, this]
  simp only [h1, h2, bne_self_eq_false, Bool.false_eq_true, if_false, Option.bind_some]
  rw [loop_all (z := false) (n := b.2.1.length) (fun k => match a.2.1[k]?, b.2.1[k]? with | some x, some y => decide (x = y) | _, _ => true) (by omega) (fun k hk => ?_) (by simp)]
  · have hall : ((List.range b.2.1.length).all fun k => match a.2.1[k]?, b.2.1[k]? with | some x, some y => decide (x = y) | _, _ => true) = decide (a = b) := by
      rw [Bool.eq_iff_iff]
      simp only [List.all_eq_true, List.mem_range, decide_eq_true_eq]
      constructor
      · intro hh
        refine al_ext h1 (List.ext_getElem h2 fun k k1 k2 => ?_)
        have := hh k k2
        rw [List.getElem?_eq_getElem k1, List.getElem?_eq_getElem k2] at this
        simpa using this
      · intro e k hk
        subst e
        rw [List.getElem?_eq_getElem hk]
        simp
    rw [hall]
    cases decide (a = b) <;> rfl
  · have hk' : k < a.2.1.length := by omega
    have h3 : (k : Int) < (b.2.1.length : Int) := by omega
    have h5 := op_len a1 a8 (af _ (List.getElem_mem hk'))
    simp only [h3, decide_true, if_true, idx_nat hk, idx_nat hk', Option.bind_some, List.getElem?_eq_getElem hk, List.getElem?_eq_getElem hk']
    by_cases e1 : (a.2.1[k]).1 = (b.2.1[k]).1
    · by_cases e2 : (a.2.1[k]).2.1 = (b.2.1[k]).2.1
      · have e3 : a.2.1[k] = b.2.1[k] := op_ext e1 e2
        simp [e1, e2, e3, sameList_eq (show (b.2.1[k]).2.1.length < 4611686018427387904 by rw [← e2]; omega)]
      · have e3 : ¬ a.2.1[k] = b.2.1[k] := fun e => e2 (by rw [e])
        simp [e1, e2, e3, sameList_eq (show (a.2.1[k]).2.1.length < 4611686018427387904 by omega)]
    · have e3 : ¬ a.2.1[k] = b.2.1[k] := fun e => e1 (by rw [e])
      simp [e1, e3]

/-- The lexicographic order. -/
def lexB : List Int → List Int → Bool
  | x :: xs, y :: ys => decide (x < y) || (x == y && lexB xs ys)
  | [], _ :: _ => true
  | _, [] => false

theorem compare_eq {s t : List Int} (h : s.length = t.length) (hl : s.length < 4611686018427387904) : ∃ c, impl_compareLists s t = some c ∧ decide (c < 0) = lexB s t := by
  let r : Nat → Ex Unit Int := fun k => if s.drop k = t.drop k then .fall () else if lexB (s.drop k) (t.drop k) then .out (-1) else .out 1
  have hloop : ∀ f : Int → Option (Lp Int (Ex Unit Int)), (∀ k : Nat, f (k : Int) = (if h1 : k < s.length then (if s[k] = t[k]'(by omega) then some (.more (w64 ((k : Int) + 1))) else if s[k] < t[k]'(by omega) then some (.done (.out (-1))) else some (.done (.out 1))) else some (.done (.fall ())))) → loopO f 0 = some (r 0) := by
    intro f hf
    refine loop_drop r hl (fun k hk => ?_) ?_
    · have e1 : s.drop k = s[k] :: s.drop (k + 1) := List.drop_eq_getElem_cons hk
      have e2 : t.drop k = t[k]'(by omega) :: t.drop (k + 1) := List.drop_eq_getElem_cons (by omega)
      rw [hf k, dif_pos hk]
      by_cases h1 : s[k] = t[k]'(by omega)
      · right
        refine ⟨by simp [h1], ?_⟩
        simp only [r, e1, e2, h1, List.cons.injEq, true_and, lexB, Int.lt_irrefl, decide_false, Bool.false_or, beq_self_eq_true, Bool.true_and]
      · left
        have hne : s.drop k ≠ t.drop k := by rw [e1, e2]; intro e; exact h1 (List.cons.inj e).1
        have hlx : lexB (s.drop k) (t.drop k) = decide (s[k] < t[k]'(by omega)) := by
          rw [e1, e2]
          simp only [lexB, beq_eq_false_iff_ne.2 h1, Bool.false_and, Bool.or_false]
        by_cases h2 : s[k] < t[k]'(by omega)
        · have hr : r k = .out (-1) := by simp only [r, if_neg hne, hlx, h2, decide_true, if_true]
          simp [h1, h2, hr]
        · have hr : r k = .out 1 := by simp only [r, if_neg hne, hlx, h2, decide_false, Bool.false_eq_true, if_false]
          simp [h1, h2, hr]
    · rw [hf, dif_neg (by omega)]
      have : s.drop s.length = t.drop s.length := by rw [List.drop_length, h, List.drop_length]
      simp only [r, this, if_true]
  unfold impl_compareLists
  rw [hloop _ (fun k => ?_)]
  · simp only [r, List.drop_zero, h, Int.lt_irrefl, decide_false, Bool.false_eq_true, if_false, Option.bind_some]
    have irr : ∀ l : List Int, lexB l l = false := fun l => by induction l <;> simp [lexB, *]
    by_cases e : s = t
    · refine ⟨0, by simp [e, Ex.cont], by subst e; simp [irr]⟩
    · cases hx : lexB s t with
      | true => exact ⟨-1, by simp [e, Ex.cont], by simp⟩
      | false => exact ⟨1, by simp [e, Ex.cont], by simp⟩
  · by_cases hk : k < s.length
    · have h1 : (k : Int) < (s.length : Int) := by omega
      have h2 : (k : Int) < (t.length : Int) := by omega
      simp only [h1, h2, decide_true, if_true, Option.bind_some, idx_nat hk, idx_nat (show k < t.length by omega), dif_pos hk]
      by_cases e : s[k] = t[k]'(by omega)
      · simp [e]
      · by_cases e2 : s[k] < t[k]'(by omega) <;> simp [e, e2]
    · have h1 : ¬ (k : Int) < (s.length : Int) := by omega
      simp [h1, hk]

theorem l5Less_eq {s t : List Int} (h : s.length = t.length) (hl : s.length < 4611686018427387904) : spec_l5Less s t = some (lexB s t) := by
  let r : Nat → Ex Unit Bool := fun k => if s.drop k = t.drop k then .fall () else .out (lexB (s.drop k) (t.drop k))
  have irr : ∀ l : List Int, lexB l l = false := fun l => by induction l <;> simp [lexB, *]
  unfold spec_l5Less
  rw [loop_drop (n := s.length) r hl (fun k hk => ?hm) ?hd]
  case hd =>
    have : s.drop s.length = t.drop s.length := by rw [List.drop_length, h, List.drop_length]
    simp [r, this]
  · simp only [r, List.drop_zero]
    by_cases e : s = t
    · subst e; simp [Ex.cont, irr]
    · simp [e, Ex.cont]
  · have e1 : s.drop k = s[k] :: s.drop (k + 1) := List.drop_eq_getElem_cons hk
    have e2 : t.drop k = t[k]'(by omega) :: t.drop (k + 1) := List.drop_eq_getElem_cons (by omega)
    have h1 : (k : Int) < (s.length : Int) := by omega
    simp only [h1, decide_true, if_true, Option.bind_some, idx_nat hk, idx_nat (show k < t.length by omega)]
    by_cases e : s[k] = t[k]'(by omega)
    · right
      refine ⟨by simp [e], ?_⟩
      simp only [r, e1, e2, e, List.cons.injEq, true_and, lexB, Int.lt_irrefl, decide_false, Bool.false_or, beq_self_eq_true, Bool.true_and]
    · left
      have hne : s.drop k ≠ t.drop k := by rw [e1, e2]; intro e'; exact e (List.cons.inj e').1
      have hlx : lexB (s.drop k) (t.drop k) = decide (s[k] < t[k]'(by omega)) := by
        rw [e1, e2]
        simp only [lexB, beq_eq_false_iff_ne.2 e, Bool.false_and, Bool.or_false]
      have hr : r k = .out (decide (s[k] < t[k]'(by omega))) := by simp only [r, if_neg hne, hlx]
      simp [e, hr]

end Go.Pure
namespace Go.Pure
open Go.Abs

theorem idxL_aux (n : Int) : ∀ (l : List Int) (b : Int), l.foldl (fun acc x => acc * n + x) b = b * n ^ l.length + idxL n l
  | [], b => by simp [idxL]
  | d :: l, b => by
    have h1 := idxL_aux n l (b * n + d)
    have h2 := idxL_aux n l (0 * n + d)
    unfold idxL
    simp only [List.foldl_cons]
    rw [h1, h2, List.length_cons, Int.pow_succ, Int.add_mul, Int.add_mul, Int.zero_mul, Int.zero_mul, Int.zero_add, Int.mul_assoc, Int.mul_comm n (n ^ l.length)]
    omega

theorem idxL_cons (n d : Int) (l : List Int) : idxL n (d :: l) = d * n ^ l.length + idxL n l := by
  have := idxL_aux n l (0 * n + d)
  unfold idxL
  simp only [List.foldl_cons]
  rw [this]
  simp [idxL]

theorem pow_pos' {n : Int} (hn : 1 ≤ n) (t : Nat) : 0 < n ^ t := Int.pow_pos (by omega)

theorem idxL_range {n : Int} (hn : 1 ≤ n) : ∀ {l : List Int}, (∀ x ∈ l, 0 ≤ x ∧ x < n) → 0 ≤ idxL n l ∧ idxL n l < n ^ l.length
  | [], _ => by simp [idxL]
  | d :: l, h => by
    have h1 := idxL_range hn (l := l) (fun x hx => h x (by simp [hx]))
    have h2 := h d (by simp)
    have hp := pow_pos' hn l.length
    rw [idxL_cons, List.length_cons, Int.pow_succ]
    have h3 : 0 ≤ d * n ^ l.length := Int.mul_nonneg h2.1 (Int.le_of_lt hp)
    have h4 : (d + 1) * n ^ l.length ≤ n * n ^ l.length := Int.mul_le_mul_of_nonneg_right (by omega) (Int.le_of_lt hp)
    rw [Int.add_mul, Int.one_mul, Int.mul_comm n] at h4
    omega

theorem argsD_range {n : Int} (hn : 1 ≤ n) (k : Nat) (i : Int) : ∀ x ∈ argsD n k i, 0 ≤ x ∧ x < n := by
  induction k with
  | zero => simp [argsD]
  | succ k ih =>
    intro x hx
    simp only [argsD, List.mem_cons] at hx
    rcases hx with rfl | hx
    · exact ⟨Int.emod_nonneg _ (by omega), Int.emod_lt_of_pos _ (by omega)⟩
    · exact ih x hx

theorem idxL_argsD {n : Int} (hn : 1 ≤ n) (k : Nat) (i : Int) : idxL n (argsD n k i) = i % n ^ k := by
  induction k with
  | zero => simp [argsD, idxL, Int.emod_one]
  | succ k ih =>
    rw [argsD, idxL_cons, argsD_length, ih]
    have hp := pow_pos' hn k
    have h1 := Int.mul_ediv_add_emod i (n ^ k)
    have h2 := Int.mul_ediv_add_emod (i / n ^ k) n
    have h3 := Int.emod_nonneg i (show n ^ k ≠ 0 by omega)
    have h4 := Int.emod_lt_of_pos i hp
    have h5 := Int.emod_nonneg (i / n ^ k) (show n ≠ 0 by omega)
    have h6 := Int.emod_lt_of_pos (i / n ^ k) (show 0 < n by omega)
    have e : i = n ^ (k + 1) * (i / n ^ k / n) + ((i / n ^ k) % n * n ^ k + i % n ^ k) := by
      rw [Int.pow_succ, Int.mul_assoc, Int.mul_comm ((i / n ^ k) % n), ← Int.add_assoc, ← Int.mul_add, h2, h1]
    have h7 : 0 ≤ (i / n ^ k) % n * n ^ k := Int.mul_nonneg h5 (Int.le_of_lt hp)
    have h8 : ((i / n ^ k) % n + 1) * n ^ k ≤ n * n ^ k := Int.mul_le_mul_of_nonneg_right (by omega) (Int.le_of_lt hp)
    rw [Int.add_mul, Int.one_mul, Int.mul_comm n] at h8
    have h9 : (i / n ^ k) % n * n ^ k + i % n ^ k < n ^ (k + 1) := by rw [Int.pow_succ]; omega
    conv => rhs; rw [e]
    rw [Int.mul_add_emod_self_left, Int.emod_eq_of_lt (by omega) h9]

theorem argsD_shift {n : Int} (hn : 1 ≤ n) (y m : Int) : ∀ (t j : Nat), argsD n t (y + n ^ (t + j) * m) = argsD n t y
  | 0, _ => rfl
  | t + 1, j => by
    simp only [argsD]
    have ih := argsD_shift hn y m t (j + 1)
    rw [show t + 1 + j = t + (j + 1) by omega, ih]
    have hp := pow_pos' hn t
    have : (y + n ^ (t + (j + 1)) * m) / n ^ t = y / n ^ t + n * (n ^ j * m) := by
      rw [Int.pow_add, Int.mul_assoc, Int.add_mul_ediv_left _ _ (by omega), Int.pow_succ, Int.mul_comm (n ^ j) n, Int.mul_assoc]
    rw [this, Int.add_mul_emod_self_left]

theorem argsD_idxL {n : Int} (hn : 1 ≤ n) : ∀ {l : List Int}, (∀ x ∈ l, 0 ≤ x ∧ x < n) → argsD n l.length (idxL n l) = l
  | [], _ => rfl
  | d :: l, h => by
    have h1 := idxL_range hn (l := l) (fun x hx => h x (by simp [hx]))
    have h2 := h d (by simp)
    have hp := pow_pos' hn l.length
    have ih := argsD_idxL hn (l := l) (fun x hx => h x (by simp [hx]))
    rw [idxL_cons, List.length_cons, argsD]
    have e1 : (d * n ^ l.length + idxL n l) / n ^ l.length = d := by
      rw [Int.add_comm, Int.add_mul_ediv_right _ _ (by omega), Int.ediv_eq_zero_of_lt h1.1 h1.2, Int.zero_add]
    have e2 : argsD n l.length (d * n ^ l.length + idxL n l) = l := by
      have := argsD_shift hn (idxL n l) d l.length 0
      rw [Nat.add_zero, Int.mul_comm] at this
      rw [Int.add_comm, this, ih]
    rw [e1, e2, Int.emod_eq_of_lt h2.1 h2.2]

end Go.Pure
namespace Go.Pure
open Go.Abs

def ap (σ : List Int) (x : Int) : Int := σ.getD x.toNat 0
def posOf (n : Int) (k : Nat) (σ : List Int) (i : Int) : Int := idxL n ((argsD n k i).map (ap σ))
def renT (n : Int) (k : Nat) (σ T base : List Int) : Nat → List Int
  | 0 => base
  | i + 1 => (renT n k σ T base i).set (posOf n k σ (i : Int)).toNat (ap σ (T.getD i 0))
/-- A list of names: one for each element. -/
def namesB (n : Int) (σ : List Int) : Prop := (σ.length : Int) = n ∧ ∀ x ∈ σ, 0 ≤ x ∧ x < n

theorem ap_get {σ : List Int} {x : Int} (h0 : 0 ≤ x) (h : x < σ.length) : idx σ x = some (ap σ x) := by
  rw [idx_int h0 h]
  unfold ap
  rw [List.getD_eq_getElem?_getD, List.getElem?_eq_getElem (show x.toNat < σ.length by omega)]
  rfl
theorem ap_range {n : Int} {σ : List Int} (h : namesB n σ) {x : Int} (h0 : 0 ≤ x) (h1 : x < n) : 0 ≤ ap σ x ∧ ap σ x < n := by
  have h2 : x.toNat < σ.length := by have := h.1; omega
  unfold ap
  rw [List.getD_eq_getElem?_getD, List.getElem?_eq_getElem h2]
  exact h.2 _ (List.getElem_mem h2)
theorem map_range {n : Int} {σ l : List Int} (h : namesB n σ) (hl : ∀ x ∈ l, 0 ≤ x ∧ x < n) : ∀ x ∈ l.map (ap σ), 0 ≤ x ∧ x < n := by
  intro x hx
  obtain ⟨y, hy, rfl⟩ := List.mem_map.1 hx
  exact ap_range h (hl y hy).1 (hl y hy).2
theorem posOf_range {n : Int} {σ : List Int} (hn : 1 ≤ n) (h : namesB n σ) (k : Nat) (i : Int) : 0 ≤ posOf n k σ i ∧ posOf n k σ i < n ^ k := by
  have := idxL_range hn (map_range h (argsD_range hn k i))
  simpa [posOf, argsD_length] using this
theorem renT_length (n : Int) (k : Nat) (σ T base : List Int) (i : Nat) : (renT n k σ T base i).length = base.length := by
  induction i with
  | zero => rfl
  | succ i ih => simp [renT, ih]

theorem cloneOp_eq {f : Op} (h : f.2.1.length ≤ 17179869184) : impl_cloneOp f = some f := by
  unfold impl_cloneOp
  rw [clone_eq h]
  rfl

theorem cloneAlgebra_eq {a : Al} (h : algB a = true) : impl_cloneAlgebra a = some a := by
  obtain ⟨h1, h8, h4, hf⟩ := algB_size h
  unfold impl_cloneAlgebra
  rw [loop_foldN a.2.1 (fun acc x => acc ++ [x]) [] (fun b i => ((a.1, (b, ())), i)) (fun b => (a.1, (b, ()))) (by omega) (fun k hk b hb => ?_) (fun b hb => ?_)]
  · simp only [Option.bind_some, Option.some.injEq]
    have := foldl_append_one a.2.1 id []
    simp only [id, List.nil_append] at this
    rw [this, List.map_id]
  · have h2 : (k : Int) < (a.2.1.length : Int) := by omega
    have h5 := op_len h1 h8 (hf _ (List.getElem_mem hk))
    have h6 : b.length ≤ 4 := by
      have := foldl_append_one (a.2.1.take k) id []
      simp only [id, List.nil_append] at this
      rw [hb, this]; simp; omega
    simp only [h2, decide_true, if_true, idx_nat hk, Option.bind_some, cloneOp_eq (show (a.2.1[k]).2.1.length ≤ 17179869184 by omega)]
    rw [app_ok (by simp; omega)]
    rfl
  · simp

/-- The names of arguments, put in their places. -/
theorem names_loop {σ args : List Int} {n : Int} (h : namesB n σ) (ha : ∀ x ∈ args, 0 ≤ x ∧ x < n) (hl : args.length ≤ 1000) :
    loopO (σ := ((List Int) × Int)) (ρ := (List Int)) (fun s469 =>
      if decide (s469.2 < (args.length : Int)) = true then
        Option.bind (idx s469.1 s469.2) fun x470 =>
        Option.bind (idx σ x470) fun x471 =>
        Option.bind (idx s469.1 s469.2) fun x472 =>
        some (Lp.more (s469.1.set s469.2.toNat x471, w64 (s469.2 + (1 : Int))))
      else
        some (Lp.done s469.1)) (args, (0 : Int)) = some (args.map (ap σ)) := by
  have := loop_nat (f := (fun s469 : (List Int) × Int =>
      if decide (s469.2 < (args.length : Int)) = true then
        Option.bind (idx s469.1 s469.2) fun x470 =>
        Option.bind (idx σ x470) fun x471 =>
        Option.bind (idx s469.1 s469.2) fun x472 =>
        some (Lp.more (s469.1.set s469.2.toNat x471, w64 (s469.2 + (1 : Int))))
      else
        some (Lp.done s469.1))) (fun j => ((args.take j).map (ap σ) ++ args.drop j, (j : Int))) args.length (z := args.map (ap σ)) (fun j hj => ?_) ?_
  · simpa using this
  · have h1 : (j : Int) < (args.length : Int) := by omega
    have hlen : ((args.take j).map (ap σ) ++ args.drop j).length = args.length := by simp; omega
    have hget : ((args.take j).map (ap σ) ++ args.drop j)[j]'(by omega) = args[j] := by
      rw [List.getElem_append_right (by simp; omega)]
      simp [Nat.min_eq_left (show j ≤ args.length by omega)]
    have hx := ha _ (List.getElem_mem hj)
    simp only [h1, decide_true, if_true]
    rw [idx_nat (by omega), hget]
    simp only [Option.bind_some]
    rw [ap_get hx.1 (by have := h.1; omega)]
    simp only [Option.bind_some, Int.toNat_natCast]
    rw [w64_eq (by omega) (by omega)]
    congr 3
    have e1 : args.drop j = args[j] :: args.drop (j + 1) := List.drop_eq_getElem_cons hj
    have e2 : args.take (j + 1) = args.take j ++ [args[j]] := by rw [List.take_add_one]; simp [hj]
    have hl2 : ((args.take j).map (ap σ)).length = j := by simp; omega
    rw [List.set_append_right _ _ (by omega), hl2, Nat.sub_self, e2, List.map_append, List.append_assoc]
    conv => lhs; rw [e1]
    rfl
  · simp

def renO (n : Int) (σ : List Int) (f : Op) : Op := (f.1, (renT n f.1.toNat σ f.2.1 f.2.1 f.2.1.length, ()))
def renO0 (n : Int) (σ : List Int) (f : Op) : Op := (f.1, (renT n f.1.toNat σ f.2.1 (List.replicate f.2.1.length 0) f.2.1.length, ()))

theorem mid_get {α : Type} {A B : List α} {x : α} {k : Nat} (hA : A.length = k) : (A ++ x :: B)[k]? = some x := by subst hA; simp
theorem mid_set {α : Type} {A B : List α} {x y : α} {k : Nat} (hA : A.length = k) : (A ++ x :: B).set k y = A ++ y :: B := by
  subst hA; rw [List.set_append_right _ _ (Nat.le_refl _)]; simp

theorem rename_eq {a : Al} {σ : List Int} (ha : algB a = true) (h : namesB a.1 σ) : impl_rename a σ = some (a.1, (a.2.1.map (renO a.1 σ), ())) := by
  obtain ⟨h1, h8, h4, hf⟩ := algB_size ha
  unfold impl_rename
  rw [cloneAlgebra_eq ha]
  simp only [Option.bind_some]
  have hmid : ∀ (k : Nat) (hk : k < a.2.1.length) (T : List Int), ((a.2.1.take k).map (renO a.1 σ)).length = k := fun k hk T => by simp; omega
  have outer := loop_nat (σ := Al × Int) (ρ := Al) (f := (fun s362 =>
      if decide (s362.2 < (a.2.1.length : Int)) = true then
        Option.bind (idx a.2.1 s362.2) fun x363 =>
        Option.bind (α := Al) (
          loopO (σ := (Al × Int)) (ρ := Al) (fun s451 =>
            if decide (s451.2 < (x363.2.1.length : Int)) = true then
              Option.bind (idx x363.2.1 s451.2) fun x452 =>
              Option.bind (impl_argsAt s451.2 x363.1 a.1) fun x453 =>
              Option.bind (α := (List Int)) (
                loopO (σ := ((List Int) × Int)) (ρ := (List Int)) (fun s469 =>
                  if decide (s469.2 < (x453.length : Int)) = true then
                    Option.bind (idx s469.1 s469.2) fun x470 =>
                    Option.bind (idx σ x470) fun x471 =>
                    Option.bind (idx s469.1 s469.2) fun x472 =>
                    some (Lp.more (s469.1.set s469.2.toNat x471, w64 (s469.2 + (1 : Int))))
                  else
                    some (Lp.done s469.1)) (x453, (0 : Int)))
              (fun s463 =>
              Option.bind (idx s451.1.2.1 s362.2) fun x475 =>
              Option.bind (impl_indexOf s463 a.1) fun x476 =>
              Option.bind (idx σ x452) fun x477 =>
              Option.bind (idx x475.2.1 x476) fun x478 =>
              some (Lp.more ((s451.1.1, (s451.1.2.1.set s362.2.toNat (x475.1, (x475.2.1.set x476.toNat x477, x475.2.2)), s451.1.2.2)), w64 (s451.2 + (1 : Int)))))
            else
              some (Lp.done s451.1)) (s362.1, (0 : Int)))
        (fun s421 =>
        some (Lp.more (s421, w64 (s362.2 + (1 : Int)))))
      else
        some (Lp.done s362.1))) (fun k => ((a.1, ((a.2.1.take k).map (renO a.1 σ) ++ a.2.1.drop k, ())), (k : Int))) a.2.1.length (z := (a.1, (a.2.1.map (renO a.1 σ), ()))) (fun k hk => ?_) ?_
  · simp only [List.take_zero, List.map_nil, List.drop_zero, List.nil_append, Int.natCast_zero] at outer
    have ea : (a.1, (a.2.1, ())) = a := rfl
    rw [ea] at outer
    exact congrArg (fun x => Option.bind x some) outer
  · have hk1 : (k : Int) < (a.2.1.length : Int) := by omega
    obtain ⟨g0, g3, gl, gr⟩ := opB_spec (hf _ (List.getElem_mem hk))
    have g512 := op_len h1 h8 (hf _ (List.getElem_mem hk))
    simp only [hk1, decide_true, if_true, idx_nat hk, Option.bind_some]
    have e1 : a.2.1.drop k = a.2.1[k] :: a.2.1.drop (k + 1) := List.drop_eq_getElem_cons hk
    have hA := hmid k hk []
    have inner := loop_nat (σ := Al × Int) (ρ := Al) (f := (fun s451 =>
            if decide (s451.2 < ((a.2.1[k]).2.1.length : Int)) = true then
              Option.bind (idx (a.2.1[k]).2.1 s451.2) fun x452 =>
              Option.bind (impl_argsAt s451.2 (a.2.1[k]).1 a.1) fun x453 =>
              Option.bind (α := (List Int)) (
                loopO (σ := ((List Int) × Int)) (ρ := (List Int)) (fun s469 =>
                  if decide (s469.2 < (x453.length : Int)) = true then
                    Option.bind (idx s469.1 s469.2) fun x470 =>
                    Option.bind (idx σ x470) fun x471 =>
                    Option.bind (idx s469.1 s469.2) fun x472 =>
                    some (Lp.more (s469.1.set s469.2.toNat x471, w64 (s469.2 + (1 : Int))))
                  else
                    some (Lp.done s469.1)) (x453, (0 : Int)))
              (fun s463 =>
              Option.bind (idx s451.1.2.1 (k : Int)) fun x475 =>
              Option.bind (impl_indexOf s463 a.1) fun x476 =>
              Option.bind (idx σ x452) fun x477 =>
              Option.bind (idx x475.2.1 x476) fun x478 =>
              some (Lp.more ((s451.1.1, (s451.1.2.1.set (k : Int).toNat (x475.1, (x475.2.1.set x476.toNat x477, x475.2.2)), s451.1.2.2)), w64 (s451.2 + (1 : Int)))))
            else
              some (Lp.done s451.1))) (fun i => ((a.1, ((a.2.1.take k).map (renO a.1 σ) ++ ((a.2.1[k]).1, (renT a.1 (a.2.1[k]).1.toNat σ (a.2.1[k]).2.1 (a.2.1[k]).2.1 i, ())) :: a.2.1.drop (k + 1), ())), (i : Int))) (a.2.1[k]).2.1.length
              (z := (a.1, ((a.2.1.take k).map (renO a.1 σ) ++ renO a.1 σ a.2.1[k] :: a.2.1.drop (k + 1), ()))) (fun i hi => ?_) ?_
    · have es : ((a.1, ((a.2.1.take k).map (renO a.1 σ) ++ ((a.2.1[k]).1, (renT a.1 (a.2.1[k]).1.toNat σ (a.2.1[k]).2.1 (a.2.1[k]).2.1 0, ())) :: a.2.1.drop (k + 1), ())) : Al) = (a.1, ((a.2.1.take k).map (renO a.1 σ) ++ a.2.1.drop k, ())) := by
        rw [e1]; rfl
      simp only [es, Int.natCast_zero] at inner
      rw [inner]
      simp only [Option.bind_some]
      rw [w64_eq (by omega) (by omega)]
      have e2 : a.2.1.take (k + 1) = a.2.1.take k ++ [a.2.1[k]] := by rw [List.take_add_one]; simp [hk]
      rw [e2, List.map_append, List.append_assoc]
      rfl
    · have hi1 : (i : Int) < ((a.2.1[k]).2.1.length : Int) := by omega
      simp only [hi1, decide_true, if_true, idx_nat hi, Option.bind_some]
      rw [argsAt_eq h1 (by omega) (by omega) g0 (by omega)]
      simp only [Option.bind_some]
      rw [names_loop h (argsD_range h1 _ _) (by rw [argsD_length]; omega)]
      simp only [Option.bind_some, Int.toNat_natCast]
      have hget : idx ((a.2.1.take k).map (renO a.1 σ) ++ ((a.2.1[k]).1, (renT a.1 (a.2.1[k]).1.toNat σ (a.2.1[k]).2.1 (a.2.1[k]).2.1 i, ())) :: a.2.1.drop (k + 1)) (k : Int) = some ((a.2.1[k]).1, (renT a.1 (a.2.1[k]).1.toNat σ (a.2.1[k]).2.1 (a.2.1[k]).2.1 i, ())) := by
        unfold idx
        rw [if_pos (by omega), Int.toNat_natCast]
        exact mid_get hA
      rw [hget]
      simp only [Option.bind_some]
      rw [indexOf_eq h1 h8 (by simp [argsD_length]; omega) (map_range h (argsD_range h1 _ _))]
      simp only [Option.bind_some]
      have hv := gr _ (List.getElem_mem hi)
      rw [ap_get hv.1 (by have := h.1; omega)]
      have hp := posOf_range h1 h (a.2.1[k]).1.toNat (i : Int)
      have hpe : idxL a.1 ((argsD a.1 (a.2.1[k]).1.toNat (i : Int)).map (ap σ)) = posOf a.1 (a.2.1[k]).1.toNat σ (i : Int) := rfl
      rw [hpe]
      simp only [Option.bind_some]
      rw [idx_int hp.1 (by rw [renT_length]; omega)]
      simp only [Option.bind_some]
      rw [mid_set hA, w64_eq (by omega) (by omega)]
      have hg : (a.2.1[k]).2.1.getD i 0 = (a.2.1[k]).2.1[i] := by rw [List.getD_eq_getElem?_getD, List.getElem?_eq_getElem hi]; rfl
      simp only [renT, hg]
      rfl
    · simp [renO]
  · simp

end Go.Pure
namespace Go.Pure
open Go.Abs

/-- The number of renamed arguments, by a loop. -/
theorem value_loop {σ args : List Int} {n : Int} (h1 : 1 ≤ n) (h8 : n ≤ 8) (h : namesB n σ) (ha : ∀ x ∈ args, 0 ≤ x ∧ x < n) (hl : args.length ≤ 3) :
    loopO (σ := (Int × Int)) (ρ := Int) (fun s400 =>
      if decide (s400.2 < (args.length : Int)) = true then
        Option.bind (idx args s400.2) fun x401 =>
        Option.bind (idx σ x401) fun x402 =>
        some (Lp.more (w64 ((w64 (s400.1 * n)) + x402), w64 (s400.2 + (1 : Int))))
      else
        some (Lp.done s400.1)) ((0 : Int), (0 : Int)) = some (idxL n (args.map (ap σ))) := by
  have h0 := indexOf_eq h1 h8 (l := args.map (ap σ)) (by simpa using hl) (map_range h ha)
  unfold impl_indexOf at h0
  have e : (fun s400 : Int × Int =>
      if decide (s400.2 < (args.length : Int)) = true then
        Option.bind (idx args s400.2) fun x401 =>
        Option.bind (idx σ x401) fun x402 =>
        some (Lp.more (ρ := Int) (w64 ((w64 (s400.1 * n)) + x402), w64 (s400.2 + (1 : Int))))
      else
        some (Lp.done s400.1)) = (fun s10 : Int × Int =>
      if decide (s10.2 < ((args.map (ap σ)).length : Int)) = true then
        Option.bind (idx (args.map (ap σ)) s10.2) fun x11 =>
        some (Lp.more (w64 ((w64 (s10.1 * n)) + x11), w64 (s10.2 + (1 : Int))))
      else
        some (Lp.done s10.1)) := by
    funext s
    rw [List.length_map]
    by_cases hs : s.2 < (args.length : Int)
    · simp only [hs, decide_true, if_true]
      by_cases h0 : 0 ≤ s.2
      · rw [idx_int h0 hs, idx_int h0 (by simpa using hs)]
        simp only [Option.bind_some, List.getElem_map]
        have hx := ha _ (List.getElem_mem (show s.2.toNat < args.length by omega))
        rw [ap_get hx.1 (by have := h.1; omega)]
        rfl
      · have e1 : idx args s.2 = none := by unfold idx; rw [if_neg h0]
        have e2 : idx (args.map (ap σ)) s.2 = none := by unfold idx; rw [if_neg h0]
        rw [e1, e2]; rfl
    · simp [hs]
  rw [e]
  cases hx : loopO (σ := (Int × Int)) (ρ := Int) (fun s10 : Int × Int =>
      if decide (s10.2 < ((args.map (ap σ)).length : Int)) = true then
        Option.bind (idx (args.map (ap σ)) s10.2) fun x11 =>
        some (Lp.more (w64 ((w64 (s10.1 * n)) + x11), w64 (s10.2 + (1 : Int))))
      else
        some (Lp.done s10.1)) ((0 : Int), (0 : Int)) with
  | none => rw [hx] at h0; cases h0
  | some z => rw [hx] at h0; exact h0

theorem l2Rename_eq {a : Al} {σ : List Int} (ha : algB a = true) (h : namesB a.1 σ) : spec_l2Rename a σ = some (a.1, (a.2.1.map (renO0 a.1 σ), ())) := by
  obtain ⟨h1, h8, h4, hf⟩ := algB_size ha
  unfold spec_l2Rename
  rw [loop_foldN a.2.1 (fun acc x => acc ++ [renO0 a.1 σ x]) [] (fun b i => ((a.1, (b, ())), i)) (fun b => (a.1, (b, ()))) (by omega) (fun k hk b hb => ?_) (fun b hb => ?_)]
  · simp only [Option.bind_some, Option.some.injEq]
    rw [foldl_append_one]
    rfl
  · have hk1 : (k : Int) < (a.2.1.length : Int) := by omega
    obtain ⟨g0, g3, gl, gr⟩ := opB_spec (hf _ (List.getElem_mem hk))
    have g512 := op_len h1 h8 (hf _ (List.getElem_mem hk))
    have hbl : b.length ≤ 4 := by rw [hb, foldl_append_one]; simp; omega
    simp only [hk1, decide_true, if_true, idx_nat hk, Option.bind_some]
    rw [mkS_ok (show (a.2.1[k]).2.1.length ≤ 17179869184 by omega)]
    simp only [Option.bind_some]
    have inner := loop_nat (σ := Op × Int) (ρ := Op) (f := (fun s386 =>
            if decide (s386.2 < (s386.1.2.1.length : Int)) = true then
              Option.bind (spec_l2Args a.1 s386.1.1 s386.2) fun x387 =>
              Option.bind (α := Int) (
                loopO (σ := (Int × Int)) (ρ := Int) (fun s400 =>
                  if decide (s400.2 < (x387.length : Int)) = true then
                    Option.bind (idx x387 s400.2) fun x401 =>
                    Option.bind (idx σ x401) fun x402 =>
                    some (Lp.more (w64 ((w64 (s400.1 * a.1)) + x402), w64 (s400.2 + (1 : Int))))
                  else
                    some (Lp.done s400.1)) ((0 : Int), (0 : Int)))
              (fun s395 =>
              Option.bind (idx (a.2.1[k]).2.1 s386.2) fun x406 =>
              Option.bind (idx σ x406) fun x407 =>
              Option.bind (idx s386.1.2.1 s395) fun x408 =>
              some (Lp.more ((s386.1.1, (s386.1.2.1.set s395.toNat x407, s386.1.2.2)), w64 (s386.2 + (1 : Int)))))
            else
              some (Lp.done s386.1))) (fun i => (((a.2.1[k]).1, (renT a.1 (a.2.1[k]).1.toNat σ (a.2.1[k]).2.1 (List.replicate (a.2.1[k]).2.1.length 0) i, ())), (i : Int))) (a.2.1[k]).2.1.length
              (z := renO0 a.1 σ a.2.1[k]) (fun i hi => ?_) ?_
    · simp only [Int.natCast_zero] at inner
      have e0 : renT a.1 (a.2.1[k]).1.toNat σ (a.2.1[k]).2.1 (List.replicate (a.2.1[k]).2.1.length 0) 0 = List.replicate (a.2.1[k]).2.1.length 0 := rfl
      rw [e0] at inner
      rw [inner]
      simp only [Option.bind_some]
      rw [app_ok (by simp; omega)]
      rfl
    · have hlen : (renT a.1 (a.2.1[k]).1.toNat σ (a.2.1[k]).2.1 (List.replicate (a.2.1[k]).2.1.length 0) i).length = (a.2.1[k]).2.1.length := by rw [renT_length]; simp
      have hi1 : (i : Int) < ((a.2.1[k]).2.1.length : Int) := by omega
      simp only [hlen, hi1, decide_true, if_true]
      rw [l2Args_eq]
      simp only [argsAt_eq h1 (show (0 : Int) ≤ (i : Int) by omega) (by omega) g0 (show (a.2.1[k]).1 ≤ 1000 by omega), Option.bind_some]
      rw [value_loop h1 h8 h (argsD_range h1 _ _) (by rw [argsD_length]; omega)]
      simp only [Option.bind_some, idx_nat hk, idx_nat hi]
      have hv := gr _ (List.getElem_mem hi)
      rw [ap_get hv.1 (by have := h.1; omega)]
      have hp := posOf_range h1 h (a.2.1[k]).1.toNat (i : Int)
      have hpe : idxL a.1 ((argsD a.1 (a.2.1[k]).1.toNat (i : Int)).map (ap σ)) = posOf a.1 (a.2.1[k]).1.toNat σ (i : Int) := rfl
      rw [hpe]
      simp only [Option.bind_some]
      rw [idx_int hp.1 (by omega)]
      simp only [Option.bind_some]
      rw [w64_eq (by omega) (by omega)]
      have hg : (a.2.1[k]).2.1.getD i 0 = (a.2.1[k]).2.1[i] := by rw [List.getD_eq_getElem?_getD, List.getElem?_eq_getElem hi]; rfl
      simp only [renT, hg]
      rfl
    · have hlen : (renT a.1 (a.2.1[k]).1.toNat σ (a.2.1[k]).2.1 (List.replicate (a.2.1[k]).2.1.length 0) (a.2.1[k]).2.1.length).length = (a.2.1[k]).2.1.length := by rw [renT_length]; simp
      simp [hlen, renO0]
  · simp

end Go.Pure
namespace Go.Pure
open Go.Abs

theorem nodup_len {α : Type} [BEq α] [LawfulBEq α] : ∀ {l m : List α}, l.Nodup → (∀ x ∈ l, x ∈ m) → l.length ≤ m.length
  | [], _, _, _ => by simp
  | x :: l, m, hn, hs => by
    have hx : x ∈ m := hs x (by simp)
    have h1 := List.nodup_cons.1 hn
    have h2 := nodup_len (l := l) (m := m.erase x) h1.2 (fun y hy => (List.mem_erase_of_ne (fun e => h1.1 (by rw [← e]; exact hy))).2 (hs y (by simp [hy])))
    have h3 := List.length_erase_of_mem hx
    have h4 := List.length_pos_of_mem hx
    simp only [List.length_cons]
    omega

def permP (n : Int) (σ : List Int) : Prop := namesB n σ ∧ σ.Nodup
def rangeI (n : Nat) : List Int := (List.range n).map fun (k : Nat) => (k : Int)
theorem mem_rangeI {n : Nat} {x : Int} : x ∈ rangeI n ↔ 0 ≤ x ∧ x < n := by
  simp only [rangeI, List.mem_map, List.mem_range]
  constructor
  · rintro ⟨k, hk, rfl⟩; omega
  · rintro ⟨h0, h1⟩; exact ⟨x.toNat, by omega, by omega⟩

theorem perm_full {n : Int} {σ : List Int} (h : permP n σ) {y : Int} (h0 : 0 ≤ y) (h1 : y < n) : y ∈ σ := by
  refine Classical.byContradiction fun hy => ?_
  have h2 : (y :: σ).Nodup := List.nodup_cons.2 ⟨hy, h.2⟩
  have h3 := nodup_len h2 (m := rangeI σ.length) (fun x hx => by
    rw [mem_rangeI, h.1.1]
    rcases List.mem_cons.1 hx with rfl | hx
    · exact ⟨h0, h1⟩
    · exact h.1.2 x hx)
  simp [rangeI] at h3
  try omega

theorem ap_eq {σ : List Int} {k : Nat} (h : k < σ.length) : ap σ (k : Int) = σ[k] := by
  unfold ap
  rw [Int.toNat_natCast, List.getD_eq_getElem?_getD, List.getElem?_eq_getElem h]
  rfl
theorem ap_inj {n : Int} {σ : List Int} (h : permP n σ) {x y : Int} (hx : 0 ≤ x ∧ x < n) (hy : 0 ≤ y ∧ y < n) (e : ap σ x = ap σ y) : x = y := by
  obtain ⟨k, rfl⟩ : ∃ k : Nat, x = k := ⟨x.toNat, by omega⟩
  obtain ⟨j, rfl⟩ : ∃ k : Nat, y = k := ⟨y.toNat, by omega⟩
  have h1 := h.1.1
  rw [ap_eq (by omega), ap_eq (by omega)] at e
  have hp := h.2
  rw [List.nodup_iff_pairwise_ne, List.pairwise_iff_getElem] at hp
  rcases Nat.lt_trichotomy k j with hkj | hkj | hkj
  · exact absurd e (hp k j (by omega) (by omega) hkj)
  · omega
  · exact absurd e.symm (hp j k (by omega) (by omega) hkj)

/-- The order back. -/
def invL (σ : List Int) : List Int := (List.range σ.length).map fun (y : Nat) => ((σ.idxOf (y : Int) : Nat) : Int)
/-- One order behind another. -/
def comp (τ σ : List Int) : List Int := σ.map (ap τ)
def idL (n : Nat) : List Int := rangeI n

theorem ap_inv {n : Int} {σ : List Int} (h : permP n σ) {y : Int} (hy : 0 ≤ y ∧ y < n) : ap (invL σ) y = (σ.idxOf y : Nat) ∧ σ.idxOf y < σ.length := by
  obtain ⟨k, rfl⟩ : ∃ k : Nat, y = k := ⟨y.toNat, by omega⟩
  have h1 := h.1.1
  rw [ap_eq (by simp [invL]; omega)]
  exact ⟨by simp [invL], List.idxOf_lt_length_of_mem (perm_full h hy.1 hy.2)⟩
theorem ap_ap_inv {n : Int} {σ : List Int} (h : permP n σ) {y : Int} (hy : 0 ≤ y ∧ y < n) : ap σ (ap (invL σ) y) = y := by
  obtain ⟨h1, h2⟩ := ap_inv h hy
  rw [h1, ap_eq h2]
  exact List.getElem_idxOf h2
theorem inv_namesB {n : Int} {σ : List Int} (h : permP n σ) : namesB n (invL σ) := by
  refine ⟨by simp [invL, h.1.1], fun x hx => ?_⟩
  simp only [invL, List.mem_map, List.mem_range] at hx
  obtain ⟨k, hk, rfl⟩ := hx
  have h1 := h.1.1
  have h2 := List.idxOf_lt_length_of_mem (perm_full h (y := (k : Int)) (by omega) (by omega))
  omega
theorem ap_inv_ap {n : Int} {σ : List Int} (h : permP n σ) {x : Int} (hx : 0 ≤ x ∧ x < n) : ap (invL σ) (ap σ x) = x :=
  ap_inj h (ap_range (inv_namesB h) (ap_range h.1 hx.1 hx.2).1 (ap_range h.1 hx.1 hx.2).2) hx (ap_ap_inv h (ap_range h.1 hx.1 hx.2))

/-- Lists that do the same are the same. -/
theorem names_ext {n : Int} {σ τ : List Int} (h1 : (σ.length : Int) = n) (h2 : (τ.length : Int) = n) (h : ∀ x, 0 ≤ x → x < n → ap σ x = ap τ x) : σ = τ := by
  refine List.ext_getElem (by omega) fun k k1 k2 => ?_
  have := h (k : Int) (by omega) (by omega)
  rwa [ap_eq k1, ap_eq k2] at this
theorem perm_of_inj {n : Int} {σ : List Int} (h : namesB n σ) (hi : ∀ x y, 0 ≤ x → x < n → 0 ≤ y → y < n → ap σ x = ap σ y → x = y) : permP n σ := by
  refine ⟨h, ?_⟩
  rw [List.nodup_iff_pairwise_ne, List.pairwise_iff_getElem]
  intro i j h1 h2 hij e
  have h3 := h.1
  have := hi (i : Int) (j : Int) (by omega) (by omega) (by omega) (by omega) (by rw [ap_eq h1, ap_eq h2]; exact e)
  omega
theorem inv_perm {n : Int} {σ : List Int} (h : permP n σ) : permP n (invL σ) := perm_of_inj (inv_namesB h) fun x y x0 x1 y0 y1 e => by
  have := congrArg (ap σ) e
  rwa [ap_ap_inv h ⟨x0, x1⟩, ap_ap_inv h ⟨y0, y1⟩] at this
theorem ap_comp {n : Int} {σ τ : List Int} (h : (σ.length : Int) = n) {x : Int} (hx : 0 ≤ x ∧ x < n) : ap (comp τ σ) x = ap τ (ap σ x) := by
  obtain ⟨k, rfl⟩ : ∃ k : Nat, x = k := ⟨x.toNat, by omega⟩
  rw [ap_eq (by simp [comp]; omega), ap_eq (show k < σ.length by omega)]
  simp [comp]
theorem comp_namesB {n : Int} {σ τ : List Int} (h : namesB n σ) (h' : namesB n τ) : namesB n (comp τ σ) := ⟨by simp [comp, h.1], map_range h' h.2⟩
theorem comp_perm {n : Int} {σ τ : List Int} (h : permP n σ) (h' : permP n τ) : permP n (comp τ σ) := perm_of_inj (comp_namesB h.1 h'.1) fun x y x0 x1 y0 y1 e => by
  rw [ap_comp h.1.1 ⟨x0, x1⟩, ap_comp h.1.1 ⟨y0, y1⟩] at e
  exact ap_inj h ⟨x0, x1⟩ ⟨y0, y1⟩ (ap_inj h' (ap_range h.1 x0 x1) (ap_range h.1 y0 y1) e)
theorem ap_id {n : Nat} {x : Int} (hx : 0 ≤ x ∧ x < n) : ap (idL n) x = x := by
  obtain ⟨k, rfl⟩ : ∃ k : Nat, x = k := ⟨x.toNat, by omega⟩
  rw [ap_eq (by simp [idL, rangeI]; omega)]
  simp [idL, rangeI]
theorem id_perm (n : Nat) : permP n (idL n) := perm_of_inj ⟨by simp [idL, rangeI], fun x hx => mem_rangeI.1 hx⟩ fun x y x0 x1 y0 y1 e => by
  rwa [ap_id ⟨x0, x1⟩, ap_id ⟨y0, y1⟩] at e

theorem posOf_comp {n : Int} (hn : 1 ≤ n) {σ τ : List Int} (h : namesB n σ) (k : Nat) (i : Int) : posOf n k τ (posOf n k σ i) = posOf n k (comp τ σ) i := by
  unfold posOf
  have h1 := argsD_idxL hn (map_range h (argsD_range hn k i))
  rw [List.length_map, argsD_length] at h1
  rw [h1, List.map_map]
  congr 1
  refine List.map_congr_left fun x hx => ?_
  have := argsD_range hn k i x hx
  rw [Function.comp, ap_comp h.1 this]
theorem posOf_id {n : Int} (hn : 1 ≤ n) (k : Nat) {i : Int} (hi : 0 ≤ i ∧ i < n ^ k) {σ : List Int} (hs : ∀ x, 0 ≤ x → x < n → ap σ x = x) : posOf n k σ i = i := by
  unfold posOf
  have : (argsD n k i).map (ap σ) = argsD n k i := by
    conv => rhs; rw [← List.map_id (argsD n k i)]
    exact List.map_congr_left fun x hx => hs x (argsD_range hn k i x hx).1 (argsD_range hn k i x hx).2
  rw [this, idxL_argsD hn, Int.emod_eq_of_lt hi.1 hi.2]
theorem posOf_inv {n : Int} (hn : 1 ≤ n) {σ : List Int} (h : permP n σ) (k : Nat) {i : Int} (hi : 0 ≤ i ∧ i < n ^ k) : posOf n k (invL σ) (posOf n k σ i) = i := by
  rw [posOf_comp hn h.1]
  exact posOf_id hn k hi fun x x0 x1 => by rw [ap_comp h.1.1 ⟨x0, x1⟩, ap_inv_ap h ⟨x0, x1⟩]
theorem posOf_inv' {n : Int} (hn : 1 ≤ n) {σ : List Int} (h : permP n σ) (k : Nat) {i : Int} (hi : 0 ≤ i ∧ i < n ^ k) : posOf n k σ (posOf n k (invL σ) i) = i := by
  rw [posOf_comp hn (inv_namesB h)]
  exact posOf_id hn k hi fun x x0 x1 => by rw [ap_comp (inv_namesB h).1 ⟨x0, x1⟩, ap_ap_inv h ⟨x0, x1⟩]

theorem renT_get {n : Int} (hn : 1 ≤ n) {σ : List Int} (h : permP n σ) (k : Nat) (T base : List Int) (hb : (base.length : Int) = n ^ k) : ∀ (N : Nat), (N : Int) ≤ n ^ k → ∀ i : Nat, i < N → (renT n k σ T base N).getD (posOf n k σ (i : Int)).toNat 0 = ap σ (T.getD i 0)
  | 0, _, i, hi => by omega
  | N + 1, hN, i, hi => by
    have hp := posOf_range hn h.1 k (i : Int)
    have hq := posOf_range hn h.1 k (N : Int)
    simp only [renT]
    rw [List.getD_eq_getElem?_getD, List.getElem?_set]
    by_cases e : i = N
    · subst e
      rw [if_pos rfl, if_pos (by rw [renT_length]; omega)]
      rfl
    · have hne : (posOf n k σ (N : Int)).toNat ≠ (posOf n k σ (i : Int)).toNat := by
        intro he
        have : posOf n k σ (N : Int) = posOf n k σ (i : Int) := by omega
        have h3 := congrArg (posOf n k (invL σ)) this
        rw [posOf_inv hn h k ⟨by omega, by omega⟩, posOf_inv hn h k ⟨by omega, by omega⟩] at h3
        omega
      rw [if_neg hne, ← List.getD_eq_getElem?_getD]
      exact renT_get hn h k T base hb N (by omega) i (by omega)

def HomO (n : Int) (σ : List Int) (f g : Op) : Prop := g.1 = f.1 ∧ g.2.1.length = f.2.1.length ∧ ∀ i : Nat, i < f.2.1.length → g.2.1.getD (posOf n f.1.toNat σ (i : Int)).toNat 0 = ap σ (f.2.1.getD i 0)

theorem homO_unique {n : Int} (hn : 1 ≤ n) {σ : List Int} (h : permP n σ) {f g g' : Op} (hf : opB n f = true) (h1 : HomO n σ f g) (h2 : HomO n σ f g') : g = g' := by
  obtain ⟨f0, f3, fl, fr⟩ := opB_spec hf
  refine op_ext (h1.1.trans h2.1.symm) (List.ext_getElem (h1.2.1.trans h2.2.1.symm) fun j j1 j2 => ?_)
  have hj : (0 : Int) ≤ (j : Int) ∧ (j : Int) < n ^ f.1.toNat := by have := h1.2.1; omega
  have hq := posOf_range hn (inv_namesB h) f.1.toNat (j : Int)
  have e1 := h1.2.2 (posOf n f.1.toNat (invL σ) (j : Int)).toNat (by omega)
  have e2 := h2.2.2 (posOf n f.1.toNat (invL σ) (j : Int)).toNat (by omega)
  rw [Int.toNat_of_nonneg hq.1, posOf_inv' hn h _ hj, Int.toNat_natCast] at e1 e2
  rw [← e2] at e1
  rw [List.getD_eq_getElem?_getD, List.getD_eq_getElem?_getD, List.getElem?_eq_getElem j1, List.getElem?_eq_getElem j2] at e1
  simpa using e1

theorem homO_ren {n : Int} (hn : 1 ≤ n) {σ : List Int} (h : permP n σ) {f : Op} (hf : opB n f = true) : HomO n σ f (renO n σ f) := by
  obtain ⟨f0, f3, fl, fr⟩ := opB_spec hf
  exact ⟨rfl, renT_length .., fun i hi => renT_get hn h _ _ _ fl _ (by omega) i hi⟩
theorem homO_ren0 {n : Int} (hn : 1 ≤ n) {σ : List Int} (h : permP n σ) {f : Op} (hf : opB n f = true) : HomO n σ f (renO0 n σ f) := by
  obtain ⟨f0, f3, fl, fr⟩ := opB_spec hf
  exact ⟨rfl, by simp [renO0, renT_length], fun i hi => renT_get hn h _ _ _ (by simpa using fl) _ (by omega) i hi⟩
theorem renO0_eq {n : Int} (hn : 1 ≤ n) {σ : List Int} (h : permP n σ) {f : Op} (hf : opB n f = true) : renO0 n σ f = renO n σ f := homO_unique hn h hf (homO_ren0 hn h hf) (homO_ren hn h hf)

theorem renO_opB {n : Int} (hn : 1 ≤ n) {σ : List Int} (h : permP n σ) {f : Op} (hf : opB n f = true) : opB n (renO n σ f) = true := by
  obtain ⟨f0, f3, fl, fr⟩ := opB_spec hf
  have hh := homO_ren hn h hf
  simp only [opB, inS, Bool.and_eq_true, decide_eq_true_eq, List.all_eq_true]
  refine ⟨⟨⟨f0, f3⟩, by rw [hh.2.1]; exact fl⟩, fun x hx => ?_⟩
  obtain ⟨j, hj, rfl⟩ := List.getElem_of_mem hx
  have hj' : (0 : Int) ≤ (j : Int) ∧ (j : Int) < n ^ f.1.toNat := by have := hh.2.1; omega
  have hq := posOf_range hn (inv_namesB h) f.1.toNat (j : Int)
  have e1 := hh.2.2 (posOf n f.1.toNat (invL σ) (j : Int)).toNat (by omega)
  rw [Int.toNat_of_nonneg hq.1, posOf_inv' hn h _ hj', Int.toNat_natCast, List.getD_eq_getElem?_getD, List.getElem?_eq_getElem hj] at e1
  simp only [Option.getD_some] at e1
  rw [e1, List.getD_eq_getElem?_getD, List.getElem?_eq_getElem (show (posOf n f.1.toNat (invL σ) (j : Int)).toNat < f.2.1.length by omega)]
  have := fr _ (List.getElem_mem (show (posOf n f.1.toNat (invL σ) (j : Int)).toNat < f.2.1.length by omega))
  exact ap_range h.1 this.1 this.2

theorem renO_comp {n : Int} (hn : 1 ≤ n) {σ τ : List Int} (h : permP n σ) (h' : permP n τ) {f : Op} (hf : opB n f = true) : renO n τ (renO n σ f) = renO n (comp τ σ) f := by
  obtain ⟨f0, f3, fl, fr⟩ := opB_spec hf
  have h1 := homO_ren hn h hf
  have h2 := homO_ren hn h' (renO_opB hn h hf)
  refine homO_unique hn (comp_perm h h') hf ⟨rfl, by rw [h2.2.1, h1.2.1], fun i hi => ?_⟩ (homO_ren hn (comp_perm h h') hf)
  have hp := posOf_range hn h.1 f.1.toNat (i : Int)
  have e1 := h1.2.2 i hi
  have e2 := h2.2.2 (posOf n f.1.toNat σ (i : Int)).toNat (by rw [h1.2.1]; omega)
  rw [e1, show (renO n σ f).1 = f.1 from rfl, Int.toNat_of_nonneg hp.1, posOf_comp hn h.1] at e2
  rw [e2, ap_comp h.1.1]
  rw [List.getD_eq_getElem?_getD, List.getElem?_eq_getElem hi]
  exact fr _ (List.getElem_mem hi)

theorem renO_id {n : Int} (hn : 1 ≤ n) {σ : List Int} (h : permP n σ) (hs : ∀ x, 0 ≤ x → x < n → ap σ x = x) {f : Op} (hf : opB n f = true) : renO n σ f = f := by
  obtain ⟨f0, f3, fl, fr⟩ := opB_spec hf
  refine homO_unique hn h hf (homO_ren hn h hf) ⟨rfl, rfl, fun i hi => ?_⟩
  rw [posOf_id hn _ ⟨by omega, by omega⟩ hs, Int.toNat_natCast]
  have hx : f.2.1.getD i 0 = f.2.1[i] := by rw [List.getD_eq_getElem?_getD, List.getElem?_eq_getElem hi]; rfl
  have := fr _ (List.getElem_mem hi)
  rw [hx, hs _ this.1 this.2]

/-- An algebra with renamed elements. -/
def ren (a : Al) (σ : List Int) : Al := (a.1, (a.2.1.map (renO a.1 σ), ()))

theorem rename_ren {a : Al} {σ : List Int} (ha : algB a = true) (h : permP a.1 σ) : impl_rename a σ = some (ren a σ) := rename_eq ha h.1
theorem l2Rename_ren {a : Al} {σ : List Int} (ha : algB a = true) (h : permP a.1 σ) : spec_l2Rename a σ = some (ren a σ) := by
  obtain ⟨h1, h8, h4, hf⟩ := algB_size ha
  rw [l2Rename_eq ha h.1]
  have : a.2.1.map (renO0 a.1 σ) = a.2.1.map (renO a.1 σ) := List.map_congr_left fun f hf' => renO0_eq h1 h (hf f hf')
  rw [this]
  rfl
theorem ren_algB {a : Al} {σ : List Int} (ha : algB a = true) (h : permP a.1 σ) : algB (ren a σ) = true := by
  obtain ⟨h1, h8, h4, hf⟩ := algB_size ha
  simp only [algB, ren, Bool.and_eq_true, decide_eq_true_eq, List.all_eq_true, List.length_map, List.mem_map]
  refine ⟨⟨⟨decide_eq_true h1, decide_eq_true h8⟩, h4⟩, ?_⟩
  rintro _ ⟨f, hf', rfl⟩
  exact renO_opB h1 h (hf f hf')
theorem ren_comp {a : Al} {σ τ : List Int} (ha : algB a = true) (h : permP a.1 σ) (h' : permP a.1 τ) : ren (ren a σ) τ = ren a (comp τ σ) := by
  obtain ⟨h1, h8, h4, hf⟩ := algB_size ha
  refine al_ext rfl ?_
  show (a.2.1.map (renO a.1 σ)).map (renO a.1 τ) = a.2.1.map (renO a.1 (comp τ σ))
  rw [List.map_map]
  exact List.map_congr_left fun f hf' => renO_comp h1 h h' (hf f hf')
theorem ren_id {a : Al} {σ : List Int} (ha : algB a = true) (h : permP a.1 σ) (hs : ∀ x, 0 ≤ x → x < a.1 → ap σ x = x) : ren a σ = a := by
  obtain ⟨h1, h8, h4, hf⟩ := algB_size ha
  refine al_ext rfl ?_
  show a.2.1.map (renO a.1 σ) = a.2.1
  conv => rhs; rw [← List.map_id a.2.1]
  exact List.map_congr_left fun f hf' => renO_id h1 h hs (hf f hf')
theorem ren_inv {a b : Al} {σ : List Int} (ha : algB a = true) (h : permP a.1 σ) (e : ren a σ = b) : ren b (invL σ) = a := by
  subst e
  rw [ren_comp ha h (inv_perm h)]
  exact ren_id ha (comp_perm h (inv_perm h)) fun x x0 x1 => by rw [ap_comp h.1.1 ⟨x0, x1⟩, ap_inv_ap h ⟨x0, x1⟩]
theorem ren_type (a : Al) (σ : List Int) : typeL (ren a σ) = typeL a := by
  simp [typeL, ren, renO, List.map_map]
theorem ren_size (a : Al) (σ : List Int) : (ren a σ).1 = a.1 := rfl

end Go.Pure
namespace Go.Pure
open Go.Abs

/-- The elements that a begun order lacks, from the smallest on. -/
def freshL (n : Nat) (b : List Int) : List Int := (rangeI n).filter fun x => !(b.contains x)
/-- All orders that go on from a begun one: `m` places are open. -/
def ords (n : Nat) : Nat → List Int → List (List Int)
  | 0, b => [b]
  | m + 1, b => (freshL n b).flatMap fun x => ords n m (b ++ [x])

theorem rangeI_length (n : Nat) : (rangeI n).length = n := by simp [rangeI]
theorem rangeI_nodup (n : Nat) : (rangeI n).Nodup := (id_perm n).2
theorem rangeI_get {n k : Nat} (h : k < (rangeI n).length) : (rangeI n)[k] = (k : Int) := by simp [rangeI]
theorem rangeI_succ (k : Nat) : rangeI (k + 1) = rangeI k ++ [(k : Int)] := by simp [rangeI, List.range_succ]
theorem rangeI_take {n k : Nat} (h : k ≤ n) : (rangeI n).take k = rangeI k := by
  simp only [rangeI, ← List.map_take, List.take_range, Nat.min_eq_left h]

/-- What a begun order must be. -/
def begun (n : Nat) (b : List Int) : Prop := b.Nodup ∧ ∀ x ∈ b, 0 ≤ x ∧ x < n
theorem begun_len {n : Nat} {b : List Int} (h : begun n b) : b.length ≤ n := by
  have := nodup_len h.1 (m := rangeI n) fun x hx => mem_rangeI.2 (h.2 x hx)
  rwa [rangeI_length] at this
theorem begun_snoc {n : Nat} {b : List Int} {x : Int} (h : begun n b) (hx : x ∈ freshL n b) : begun n (b ++ [x]) := by
  simp only [freshL, List.mem_filter, mem_rangeI, Bool.not_eq_true', List.contains_eq_mem, decide_eq_false_iff_not] at hx
  refine ⟨?_, fun y hy => ?_⟩
  · rw [List.nodup_append]
    refine ⟨h.1, by simp, fun y hy z hz e => ?_⟩
    simp only [List.mem_singleton] at hz
    subst hz; subst e
    exact hx.2 hy
  · rcases List.mem_append.1 hy with hy | hy
    · exact h.2 y hy
    · simp only [List.mem_singleton] at hy; subst hy; exact hx.1

theorem l31Names_eq {n : Nat} (hn : n ≤ 8) : ∀ (m fuel : Nat) (b : List Int), begun n b → b.length + m = n → m < fuel →
    spec_l31Names fuel (n : Int) b = some (ords n m b) ∧ (ords n m b).length ≤ 8 ^ m
  | 0, 0, _, _, _, h => by omega
  | 0, fuel + 1, b, hb, hl, _ => by
    have h1 : ((b.length : Int) == (n : Int)) = true := by simp; omega
    simp only [spec_l31Names, h1, if_true]
    rw [show spec_l1Own b = impl_clone b from rfl, clone_eq (by omega)]
    exact ⟨rfl, by simp [ords]⟩
  | m + 1, 0, _, _, _, h => by omega
  | m + 1, fuel + 1, b, hb, hl, hf => by
    have h1 : ((b.length : Int) == (n : Int)) = false := by simp; omega
    have ih := fun (x : Int) (hx : x ∈ freshL n b) => l31Names_eq hn m fuel (b ++ [x]) (begun_snoc hb hx) (by simp; omega) (by omega)
    let g : List (List Int) → Int → List (List Int) := fun acc x => acc ++ (if b.contains x then [] else ords n m (b ++ [x]))
    have hg : ∀ xs : List Int, ∀ acc, xs.foldl g acc = acc ++ (xs.filter fun x => !(b.contains x)).flatMap fun x => ords n m (b ++ [x]) := by
      intro xs
      induction xs with
      | nil => intro acc; simp
      | cons x xs ih =>
        intro acc
        rw [List.foldl_cons, ih]
        by_cases hc : x ∈ b <;> simp [g, hc, List.filter_cons]
    have hlen : ∀ k, k ≤ n → ((rangeI k).foldl g []).length ≤ k * 8 ^ m := by
      intro k
      induction k with
      | zero => intro _; simp [rangeI]
      | succ k ihk =>
        intro hk
        rw [rangeI_succ, List.foldl_append]
        simp only [List.foldl_cons, List.foldl_nil]
        have h2 := ihk (by omega)
        have h3 : (if b.contains (k : Int) then [] else ords n m (b ++ [(k : Int)])).length ≤ 8 ^ m := by
          by_cases hc : b.contains (k : Int)
          · rw [if_pos hc]; exact Nat.zero_le _
          · rw [if_neg hc]
            refine (ih (k : Int) ?_).2
            simp only [freshL, List.mem_filter, mem_rangeI]
            exact ⟨by omega, by simpa using hc⟩
        have e : ∀ acc, (g acc (k : Int)).length = acc.length + (if b.contains (k : Int) then [] else ords n m (b ++ [(k : Int)])).length := fun acc => by simp only [g, List.length_append]
        rw [Nat.succ_mul, e]
        exact Nat.add_le_add h2 h3
    have hpow : 8 ^ m ≤ 16777216 := by
      have : 8 ^ m ≤ 8 ^ 8 := Nat.pow_le_pow_right (by omega) (by omega)
      simpa using this
    have hbl := begun_len hb
    have hloop := loop_foldN (rangeI n) g [] (fun acc i => (acc, i)) id (by rw [rangeI_length]; omega) (f := (fun s44 : (List (List Int)) × Int =>
          if decide (s44.2 < (n : Int)) = true then
            Option.bind (spec_l1Has b s44.2) fun x45 =>
            Option.bind (α := (List (List Int))) (
              if (!x45) = true then
                Option.bind (spec_l1Own b) fun x52 =>
                Option.bind (app x52 ([s44.2])) fun x53 =>
                Option.bind (spec_l31Names fuel (n : Int) x53) fun x54 =>
                Option.bind (app s44.1 x54) fun x55 =>
                some x55
              else
                some s44.1)
            (fun s50 =>
            some (Lp.more (s50, w64 (s44.2 + (1 : Int)))))
          else
            some (Lp.done s44.1))) (fun k hk acc hacc => ?_) (fun acc hacc => ?_)
    · constructor
      · simp only [spec_l31Names, h1, Bool.false_eq_true, if_false]
        rw [hloop, hg]
        rfl
      · have h4 := hlen n (Nat.le_refl n)
        rw [hg] at h4
        simp only [List.nil_append] at h4
        show ((freshL n b).flatMap fun x => ords n m (b ++ [x])).length ≤ _
        rw [Nat.pow_succ, Nat.mul_comm]
        exact Nat.le_trans h4 (Nat.mul_le_mul_right _ hn)
    · rw [rangeI_length] at hk
      have h2 : (k : Int) < (n : Int) := by omega
      simp only [h2, decide_true, if_true, rangeI_get]
      rw [l1Has_eq (by omega)]
      rw [rangeI_take (by omega)] at hacc
      have h5 := hlen k (by omega)
      rw [← hacc] at h5
      have h6 : k * 8 ^ m ≤ 8 * 16777216 := Nat.mul_le_mul (by omega) hpow
      by_cases hc : (k : Int) ∈ b
      · simp [hc, g]
      · have hfr : (k : Int) ∈ freshL n b := by
          simp only [freshL, List.mem_filter, mem_rangeI]
          exact ⟨by omega, by simpa using hc⟩
        obtain ⟨i1, i2⟩ := ih (k : Int) hfr
        simp only [Option.bind_some, List.contains_eq_mem, decide_eq_false hc, Bool.not_false, if_true]
        rw [show spec_l1Own b = impl_clone b from rfl, clone_eq (by omega)]
        simp only [Option.bind_some]
        rw [app_ok (by simp; omega)]
        simp only [Option.bind_some, i1]
        rw [app_ok (by omega)]
        simp [g, hc]
    · simp [rangeI_length]

/-- The program's walk over all orders, with what it keeps. -/
theorem ords_length {n : Nat} : ∀ (m : Nat) (b : List Int), ∀ σ ∈ ords n m b, σ.length = b.length + m
  | 0, b, σ, h => by simp only [ords, List.mem_singleton] at h; subst h; rfl
  | m + 1, b, σ, h => by
    simp only [ords, List.mem_flatMap] at h
    obtain ⟨x, _, hx⟩ := h
    have := ords_length m _ σ hx
    simp at this
    omega
theorem ords_begun {n : Nat} : ∀ (m : Nat) (b : List Int), begun n b → ∀ σ ∈ ords n m b, begun n σ
  | 0, b, hb, σ, h => by simp only [ords, List.mem_singleton] at h; subst h; exact hb
  | m + 1, b, hb, σ, h => by
    simp only [ords, List.mem_flatMap] at h
    obtain ⟨x, hf, hx⟩ := h
    exact ords_begun m _ (begun_snoc hb hf) σ hx
theorem begun_nil (n : Nat) : begun n [] := ⟨List.nodup_nil, by simp⟩
theorem ords_perm {n : Nat} {σ : List Int} (h : σ ∈ ords n n []) : permP n σ := by
  have h1 := ords_length n [] σ h
  have h2 := ords_begun n [] (begun_nil n) σ h
  simp at h1
  exact ⟨⟨by omega, h2.2⟩, h2.1⟩
theorem ords_all {n : Nat} : ∀ (m : Nat) (b t : List Int), begun n (b ++ t) → t.length = m → b ++ t ∈ ords n m b
  | 0, b, [], _, _ => by simp [ords]
  | m + 1, b, x :: t, h, hl => by
    simp only [ords, List.mem_flatMap]
    have e : b ++ x :: t = (b ++ [x]) ++ t := by simp
    refine ⟨x, ?_, ?_⟩
    · simp only [freshL, List.mem_filter, mem_rangeI]
      refine ⟨h.2 x (by simp), ?_⟩
      have := (List.nodup_append.1 h.1).2.2
      simp only [Bool.not_eq_true', List.contains_eq_mem, decide_eq_false_iff_not]
      intro hx
      exact this x hx x (by simp) rfl
    · rw [e]
      exact ords_all m _ t (by rw [← e]; exact h) (by simpa using hl)
theorem perm_ords {n : Nat} {σ : List Int} (h : permP n σ) : σ ∈ ords n n [] := by
  have := ords_all n [] σ ⟨by simpa using h.2, by simpa using h.1.2⟩ (by have := h.1.1; omega)
  simpa using this
theorem mem_ords {n : Nat} {σ : List Int} : σ ∈ ords n n [] ↔ permP n σ := ⟨ords_perm, perm_ords⟩
theorem ords_prefix {n : Nat} : ∀ (m : Nat) (b : List Int), ∀ σ ∈ ords n m b, σ.take b.length = b
  | 0, b, σ, h => by simp only [ords, List.mem_singleton] at h; subst h; simp
  | m + 1, b, σ, h => by
    simp only [ords, List.mem_flatMap] at h
    obtain ⟨x, _, hx⟩ := h
    have := congrArg (List.take b.length) (ords_prefix m _ σ hx)
    rw [List.take_take] at this
    simpa [Nat.min_eq_left] using this
theorem nodup_flatMap {α β : Type} {f : α → List β} : ∀ {l : List α}, l.Nodup → (∀ x ∈ l, (f x).Nodup) → (∀ x ∈ l, ∀ y ∈ l, ∀ z, z ∈ f x → z ∈ f y → x = y) → (l.flatMap f).Nodup
  | [], _, _, _ => by simp
  | x :: l, h, h1, h2 => by
    rw [List.flatMap_cons, List.nodup_append]
    have h3 := List.nodup_cons.1 h
    refine ⟨h1 x (by simp), nodup_flatMap h3.2 (fun y hy => h1 y (by simp [hy])) (fun y hy z hz w => h2 y (by simp [hy]) z (by simp [hz]) w), fun a ha b hb e => ?_⟩
    subst e
    obtain ⟨y, hy, hy2⟩ := List.mem_flatMap.1 hb
    have := h2 x (by simp) y (by simp [hy]) a ha hy2
    subst this
    exact h3.1 hy
theorem freshL_nodup (n : Nat) (b : List Int) : (freshL n b).Nodup := List.Pairwise.filter _ (rangeI_nodup n)
theorem ords_nodup {n : Nat} : ∀ (m : Nat) (b : List Int), (ords n m b).Nodup
  | 0, b => by simp [ords]
  | m + 1, b => by
    simp only [ords]
    refine nodup_flatMap (freshL_nodup n b) (fun x _ => ords_nodup m _) (fun x _ y _ z hx hy => ?_)
    have h1 := ords_prefix m _ z hx
    have h2 := ords_prefix m _ z hy
    simp only [List.length_append, List.length_singleton] at h1 h2
    rw [h1] at h2
    simpa using h2
def factN : Nat → Nat
  | 0 => 1
  | n + 1 => (n + 1) * factN n
theorem filter_split {α : Type} (p : α → Bool) : ∀ l : List α, l.length = (l.filter p).length + (l.filter fun x => !p x).length
  | [] => rfl
  | x :: l => by
    have := filter_split p l
    cases h : p x <;> simp [List.filter_cons, h] <;> omega
theorem freshL_length {n : Nat} {b : List Int} (h : begun n b) : (freshL n b).length + b.length = n := by
  have h1 : ((rangeI n).filter fun x => b.contains x).length = b.length := by
    apply Nat.le_antisymm
    · exact nodup_len (List.Pairwise.filter _ (rangeI_nodup n)) fun x hx => by simpa using (List.mem_filter.1 hx).2
    · exact nodup_len h.1 fun x hx => List.mem_filter.2 ⟨mem_rangeI.2 (h.2 x hx), by simpa using hx⟩
  have h2 := filter_split (fun x => b.contains x) (rangeI n)
  rw [rangeI_length, h1] at h2
  unfold freshL
  omega
theorem length_flatMap_const {α β : Type} {f : α → List β} {c : Nat} : ∀ {l : List α}, (∀ x ∈ l, (f x).length = c) → (l.flatMap f).length = l.length * c
  | [], _ => by simp
  | x :: l, h => by
    rw [List.flatMap_cons, List.length_append, h x (by simp), length_flatMap_const fun y hy => h y (by simp [hy]), List.length_cons, Nat.succ_mul]
    omega
theorem ords_count {n : Nat} : ∀ (m : Nat) (b : List Int), begun n b → b.length + m = n → (ords n m b).length = factN m
  | 0, b, _, _ => rfl
  | m + 1, b, hb, hl => by
    simp only [ords]
    rw [length_flatMap_const (c := factN m) fun x hx => ords_count m _ (begun_snoc hb hx) (by simp; omega)]
    have := freshL_length hb
    rw [show (freshL n b).length = m + 1 by omega]
    rfl
theorem ords_fact (n : Nat) : (ords n n []).length = factN n := ords_count n [] (begun_nil n) (by simp)
end Go.Pure
namespace Go.Pure
open Go.Abs

def goOn {St : Type} (n m : Nat) (b : List Int) (step : St → List Int → St) (st : St) (x : Int) : St := if x ∈ b then st else (ords n m (b ++ [x])).foldl step st
theorem goOn_all {St : Type} {n m : Nat} {b : List Int} {step : St → List Int → St} : ∀ (xs : List Int) (st : St),
    xs.foldl (goOn n m b step) st = ((xs.filter fun x => !(b.contains x)).flatMap fun x => ords n m (b ++ [x])).foldl step st
  | [], _ => rfl
  | x :: xs, st => by
    rw [List.foldl_cons, goOn_all xs]
    by_cases hc : x ∈ b <;> simp [goOn, hc, List.foldl_append]

def stepC (a : Al) (st : Option (List Int) × List Int × Al) (σ : List Int) : Option (List Int) × List Int × Al :=
  if st.1.isNone || lexB (codeL (ren a σ)) st.2.1 then (some σ, codeL (ren a σ), ren a σ) else st
def okC (a : Al) (st : Option (List Int) × List Int × Al) : Prop := st.1.isNone = false → st.2.1.length = (codeL a).length

theorem codeL_length (a : Al) (σ : List Int) : (codeL (ren a σ)).length = (codeL a).length := by
  have : ∀ ops : List Op, ((ops.map (renO a.1 σ)).flatMap (·.2.1)).length = (ops.flatMap (·.2.1)).length := by
    intro ops
    induction ops with
    | nil => rfl
    | cons f ops ih => simp only [List.map_cons, List.flatMap_cons, List.length_append, ih]; rw [show (renO a.1 σ f).2.1.length = f.2.1.length from renT_length ..]
  exact this a.2.1
theorem codeL_small {a : Al} (h : algB a = true) : (codeL a).length ≤ 2048 := by
  obtain ⟨h1, h8, h4, hf⟩ := algB_size h
  have := code_len h1 h8 hf
  unfold codeL
  omega

theorem stepC_ok {a : Al} {st : Option (List Int) × List Int × Al} (h : okC a st) (σ : List Int) : okC a (stepC a st σ) := by
  unfold stepC
  split
  · exact fun _ => codeL_length a σ
  · exact h

theorem perm_len8 {a : Al} {σ : List Int} (ha : algB a = true) (h : permP a.1 σ) : 1 ≤ σ.length ∧ σ.length ≤ 8 := by
  obtain ⟨h1, h8, h4, hf⟩ := algB_size ha
  have := h.1.1
  omega

theorem canonical_1_eq {a : Al} {σ : List Int} (ha : algB a = true) (h : permP a.1 σ) {u v w} (hk : okC a (u, v, w)) : impl_canonical_1 σ a u v w = some (stepC a (u, v, w) σ) := by
  unfold impl_canonical_1 stepC
  have hl := perm_len8 ha h
  rw [rename_ren ha h]
  simp only [Option.bind_some, codeOf_eq (ren_algB ha h)]
  have hne : σ ≠ [] := by intro e; subst e; simp at hl
  cases hu : u.isNone
  · have h2 := hk hu
    simp only at h2
    obtain ⟨c, c1, c2⟩ := compare_eq (s := codeL (ren a σ)) (t := v) (by rw [codeL_length]; exact h2.symm) (by have := codeL_small ha; rw [codeL_length]; omega)
    simp only [Bool.false_eq_true, if_false, c1, Option.bind_some, Bool.false_or, c2]
    cases lexB (codeL (ren a σ)) v
    · simp
    · simp only [if_true]
      rw [clone_eq (by omega)]
      simp [need_eq hne]
  · simp only [if_true, Option.bind_some, Bool.true_or]
    rw [clone_eq (by omega)]
    simp [need_eq hne]

theorem begun_perm {n : Nat} {b : List Int} (h : begun n b) (hl : b.length = n) : permP (n : Int) b := ⟨⟨by omega, h.2⟩, h.1⟩

theorem foldl_ok {a : Al} : ∀ (l : List (List Int)) (st : Option (List Int) × List Int × Al), okC a st → okC a (l.foldl (stepC a) st)
  | [], _, h => h
  | σ :: l, st, h => foldl_ok l _ (stepC_ok h σ)

theorem eachC_eq {a : Al} (ha : algB a = true) {n : Nat} (hn : a.1 = (n : Int)) (h8 : n ≤ 8) : ∀ (m fuel : Nat) (b : List Int) (st : Option (List Int) × List Int × Al), begun n b → b.length + m = n → m < fuel → okC a st →
    impl_eachOrder_1_with_canonical_1 fuel b (n : Int) a st.1 st.2.1 st.2.2 = some (b, (ords n m b).foldl (stepC a) st)
  | 0, 0, _, _, _, _, h, _ => by omega
  | 0, fuel + 1, b, st, hb, hl, _, hk => by
    have h1 : ((b.length : Int) == (n : Int)) = true := by simp; omega
    simp only [impl_eachOrder_1_with_canonical_1, h1, if_true]
    rw [canonical_1_eq ha (by rw [hn]; exact begun_perm hb (by omega)) hk]
    rfl
  | m + 1, 0, _, _, _, _, h, _ => by omega
  | m + 1, fuel + 1, b, st, hb, hl, hf, hk => by
    have h1 : ((b.length : Int) == (n : Int)) = false := by simp; omega
    have ih := fun (x : Int) (hx : x ∈ freshL n b) (s : _) (hs : okC a s) => eachC_eq ha hn h8 m fuel (b ++ [x]) s (begun_snoc hb hx) (by simp; omega) (by omega) hs
    have hbl := begun_len hb
    simp only [impl_eachOrder_1_with_canonical_1, h1, Bool.false_eq_true, if_false]
    have hloop := loop_foldN (rangeI n) (goOn n m b (stepC a)) st (fun acc i => (b, i, acc)) (fun acc => (b, acc)) (by rw [rangeI_length]; omega) (f := (fun s38 : ((List Int) × Int × (Option (List Int)) × (List Int) × Al) =>
          if decide (s38.2.1 < (n : Int)) = true then
            Option.bind (impl_hasNot s38.1 s38.2.1) fun x39 =>
            Option.bind (α := ((List Int) × (Option (List Int)) × (List Int) × (Int × ((List (Int × ((List Int) × Unit))) × Unit)))) (
              if x39 = true then
                Option.bind (app s38.1 ([s38.2.1])) fun x45 =>
                Option.bind (impl_eachOrder_1_with_canonical_1 fuel x45 (n : Int) a s38.2.2.1 s38.2.2.2.1 s38.2.2.2.2) fun x46 =>
                Option.bind (cut x46.1 (0 : Int) (w64 ((x46.1.length : Int) - (1 : Int)))) fun x47 =>
                some (x47, (x46.2.1, (x46.2.2.1, x46.2.2.2)))
              else
                some (s38.1, (s38.2.2.1, (s38.2.2.2.1, s38.2.2.2.2))))
            (fun s43 =>
            some (Lp.more (s43.1, (w64 (s38.2.1 + (1 : Int)), (s43.2.1, (s43.2.2.1, s43.2.2.2))))))
          else
            some (Lp.done (s38.1, (s38.2.2.1, (s38.2.2.2.1, s38.2.2.2.2)))))) (fun k hk' acc hacc => ?_) (fun acc hacc => ?_)
    · have e : (ords n (m + 1) b).foldl (stepC a) st = (rangeI n).foldl (goOn n m b (stepC a)) st := (goOn_all _ _).symm
      rw [e]
      exact congrArg (fun o => Option.bind o _) hloop
    · have hko : okC a acc := by rw [hacc, goOn_all]; exact foldl_ok _ _ hk
      rw [rangeI_length] at hk'
      have h2 : (k : Int) < (n : Int) := by omega
      simp only [h2, decide_true, if_true, rangeI_get]
      rw [hasNot_eq (by omega)]
      by_cases hc : (k : Int) ∈ b
      · simp [hc, goOn]
      · have hfr : (k : Int) ∈ freshL n b := by
          simp only [freshL, List.mem_filter, mem_rangeI]
          exact ⟨by omega, by simpa using hc⟩
        simp only [Option.bind_some, List.contains_eq_mem, decide_eq_false hc, Bool.not_false, if_true]
        rw [app_ok (by simp; omega)]
        simp only [Option.bind_some]
        rw [ih (k : Int) hfr acc hko]
        simp only [Option.bind_some]
        have e2 : w64 (((b ++ [(k : Int)]).length : Int) - 1) = (b.length : Int) := by
          rw [w64_eq] <;> simp <;> omega
        rw [e2, show (0 : Int) = ((0 : Nat) : Int) from rfl, cut_nat (by omega) (by simp)]
        simp [goOn, hc]
    · simp [rangeI_length]

def stepS (a : Al) (st : List (List Int)) (σ : List Int) : List (List Int) := if ren a σ = a then st ++ [σ] else st

theorem foldS_eq (a : Al) : ∀ (l : List (List Int)) (st : List (List Int)), l.foldl (stepS a) st = st ++ l.filter fun σ => decide (ren a σ = a)
  | [], st => by simp
  | σ :: l, st => by
    rw [List.foldl_cons, foldS_eq a l]
    by_cases h : ren a σ = a <;> simp [stepS, h]
theorem foldS_len (a : Al) (l st : List (List Int)) : (l.foldl (stepS a) st).length ≤ st.length + l.length := by
  rw [foldS_eq, List.length_append]
  have := List.length_filter_le (fun σ => decide (ren a σ = a)) l
  omega

theorem symmetries_1_eq {a : Al} {σ : List Int} (ha : algB a = true) (h : permP a.1 σ) {u : List (List Int)} (hu : u.length ≤ 16777216) : impl_symmetries_1 σ a u = some (stepS a u σ) := by
  unfold impl_symmetries_1 stepS
  have hl := perm_len8 ha h
  rw [rename_ren ha h]
  simp only [Option.bind_some, sameAlgebra_eq (ren_algB ha h) ha]
  by_cases e : ren a σ = a
  · simp only [e, decide_true, if_true]
    rw [clone_eq (by omega)]
    simp only [Option.bind_some]
    rw [app_ok (by simp; omega)]
    rfl
  · simp [e]

theorem eachS_eq {a : Al} (ha : algB a = true) {n : Nat} (hn : a.1 = (n : Int)) (h8 : n ≤ 8) : ∀ (m fuel : Nat) (b : List Int) (st : List (List Int)), begun n b → b.length + m = n → m < fuel → st.length + 8 ^ m ≤ 16777216 →
    impl_eachOrder_1_with_symmetries_1 fuel b (n : Int) a st = some (b, (ords n m b).foldl (stepS a) st)
  | 0, 0, _, _, _, _, h, _ => by omega
  | 0, fuel + 1, b, st, hb, hl, _, hk => by
    have h1 : ((b.length : Int) == (n : Int)) = true := by simp; omega
    simp only [impl_eachOrder_1_with_symmetries_1, h1, if_true]
    rw [symmetries_1_eq ha (by rw [hn]; exact begun_perm hb (by omega)) (by omega)]
    rfl
  | m + 1, 0, _, _, _, _, h, _ => by omega
  | m + 1, fuel + 1, b, st, hb, hl, hf, hk => by
    have h1 : ((b.length : Int) == (n : Int)) = false := by simp; omega
    have ih := fun (x : Int) (hx : x ∈ freshL n b) (s : _) (hs : _) => eachS_eq ha hn h8 m fuel (b ++ [x]) s (begun_snoc hb hx) (by simp; omega) (by omega) hs
    have hbl := begun_len hb
    simp only [impl_eachOrder_1_with_symmetries_1, h1, Bool.false_eq_true, if_false]
    have hloop := loop_foldN (rangeI n) (goOn n m b (stepS a)) st (fun acc i => (b, i, acc)) (fun acc => (b, acc)) (by rw [rangeI_length]; omega) (f := (fun s38 : ((List Int) × Int × (List (List Int))) =>
          if decide (s38.2.1 < (n : Int)) = true then
            Option.bind (impl_hasNot s38.1 s38.2.1) fun x39 =>
            Option.bind (α := ((List Int) × (List (List Int)))) (
              if x39 = true then
                Option.bind (app s38.1 ([s38.2.1])) fun x45 =>
                Option.bind (impl_eachOrder_1_with_symmetries_1 fuel x45 (n : Int) a s38.2.2) fun x46 =>
                Option.bind (cut x46.1 (0 : Int) (w64 ((x46.1.length : Int) - (1 : Int)))) fun x47 =>
                some (x47, x46.2)
              else
                some (s38.1, s38.2.2))
            (fun s43 =>
            some (Lp.more (s43.1, (w64 (s38.2.1 + (1 : Int)), s43.2))))
          else
            some (Lp.done (s38.1, s38.2.2)))) (fun k hk' acc hacc => ?_) (fun acc hacc => ?_)
    · have e : (ords n (m + 1) b).foldl (stepS a) st = (rangeI n).foldl (goOn n m b (stepS a)) st := (goOn_all _ _).symm
      rw [e]
      exact congrArg (fun o => Option.bind o _) hloop
    · rw [rangeI_length] at hk'
      obtain ⟨p, hp⟩ : ∃ p, 8 ^ m = p := ⟨_, rfl⟩
      rw [Nat.pow_succ, Nat.mul_comm, hp] at hk
      rw [hp] at ih
      have hlen : ∀ k, k ≤ n → ((rangeI k).foldl (goOn n m b (stepS a)) st).length ≤ st.length + k * p := by
        intro k
        induction k with
        | zero => intro _; simp [rangeI]
        | succ k ihk =>
          intro hk
          rw [rangeI_succ, List.foldl_append]
          simp only [List.foldl_cons, List.foldl_nil]
          have h3 := ihk (by omega)
          rw [Nat.succ_mul]
          unfold goOn
          by_cases hc : (k : Int) ∈ b
          · rw [if_pos hc]; exact Nat.le_trans h3 (by omega)
          · rw [if_neg hc]
            have hfr : (k : Int) ∈ freshL n b := by
              simp only [freshL, List.mem_filter, mem_rangeI]
              exact ⟨by omega, by simpa using hc⟩
            have h4 := (l31Names_eq h8 m (m + 1) (b ++ [(k : Int)]) (begun_snoc hb hfr) (by simp; omega) (by omega)).2
            rw [hp] at h4
            have h5 := foldS_len a (ords n m (b ++ [(k : Int)])) ((rangeI k).foldl (goOn n m b (stepS a)) st)
            unfold goOn at h3 h5
            omega
      have h7 := hlen k (by omega)
      rw [rangeI_take (by omega)] at hacc
      rw [← hacc] at h7
      have h8' : (k + 1) * p ≤ 8 * p := Nat.mul_le_mul_right _ (by omega)
      rw [Nat.succ_mul] at h8'
      have h2 : (k : Int) < (n : Int) := by omega
      simp only [h2, decide_true, if_true, rangeI_get]
      rw [hasNot_eq (by omega)]
      by_cases hc : (k : Int) ∈ b
      · simp [hc, goOn]
      · have hfr : (k : Int) ∈ freshL n b := by
          simp only [freshL, List.mem_filter, mem_rangeI]
          exact ⟨by omega, by simpa using hc⟩
        simp only [Option.bind_some, List.contains_eq_mem, decide_eq_false hc, Bool.not_false, if_true]
        rw [app_ok (by simp; omega)]
        simp only [Option.bind_some]
        rw [ih (k : Int) hfr acc (by omega)]
        simp only [Option.bind_some]
        have e2 : w64 (((b ++ [(k : Int)]).length : Int) - 1) = (b.length : Int) := by
          rw [w64_eq] <;> simp <;> omega
        rw [e2, show (0 : Int) = ((0 : Nat) : Int) from rfl, cut_nat (by omega) (by simp)]
        simp [goOn, hc]
    · simp [rangeI_length]

def symsL (a : Al) : List (List Int) := (ords a.1.toNat a.1.toNat []).filter fun σ => decide (ren a σ = a)
theorem symmetries_eq {a : Al} (ha : algB a = true) : impl_symmetries a = some (symsL a) := by
  obtain ⟨h1, h8, h4, hf⟩ := algB_size ha
  unfold impl_symmetries impl_eachOrder_with_symmetries_1
  have hn : a.1 = ((a.1.toNat : Nat) : Int) := by omega
  have hp : 8 ^ a.1.toNat ≤ 8 ^ 8 := Nat.pow_le_pow_right (by omega) (by omega)
  have := eachS_eq ha hn (by omega) a.1.toNat 30 [] [] (begun_nil _) (by simp) (by omega) (by simpa using hp)
  rw [← hn] at this
  rw [this, foldS_eq]
  rfl
/-- The first of the orders with the least code, with the code and the algebra. -/
def bestC (a : Al) : Option (List Int) × List Int × Al := (ords a.1.toNat a.1.toNat []).foldl (stepC a) (none, [], 0, [], ())
theorem canonical_eq {a : Al} (ha : algB a = true) : impl_canonical a = some ((bestC a).2.2, (bestC a).1.getD []) := by
  obtain ⟨h1, h8, h4, hf⟩ := algB_size ha
  unfold impl_canonical impl_eachOrder_with_canonical_1
  have hn : a.1 = ((a.1.toNat : Nat) : Int) := by omega
  have := eachC_eq ha hn (by omega) a.1.toNat 30 [] (none, [], 0, [], ()) (begun_nil _) (by simp) (by omega) (fun h => by simp at h)
  rw [← hn] at this
  simp only at this
  rw [this]
  rfl
end Go.Pure
namespace Go.Pure
open Go.Abs

theorem lexB_irr : ∀ l : List Int, lexB l l = false
  | [] => rfl
  | x :: l => by simp [lexB, lexB_irr l]
theorem lexB_trans : ∀ {x y z : List Int}, x.length = y.length → y.length = z.length → lexB x y = true → lexB y z = true → lexB x z = true
  | [], [], [], _, _, h, _ => by simp [lexB] at h
  | a :: x, b :: y, c :: z, h1, h2, h3, h4 => by
    simp only [lexB, Bool.or_eq_true, Bool.and_eq_true, decide_eq_true_eq, beq_iff_eq] at h3 h4 ⊢
    rcases h3 with h3 | ⟨h3, h3'⟩ <;> rcases h4 with h4 | ⟨h4, h4'⟩
    · exact .inl (by omega)
    · exact .inl (by omega)
    · exact .inl (by omega)
    · exact .inr ⟨by omega, lexB_trans (by simpa using h1) (by simpa using h2) h3' h4'⟩
theorem lexB_total : ∀ {x y : List Int}, x.length = y.length → lexB x y = false → lexB y x = false → x = y
  | [], [], _, _, _ => rfl
  | a :: x, b :: y, h1, h2, h3 => by
    simp only [lexB, Bool.or_eq_false_iff, Bool.and_eq_false_iff, decide_eq_false_iff_not, beq_eq_false_iff_ne] at h2 h3
    have hab : a = b := by omega
    subst hab
    rw [lexB_total (by simpa using h1) (h2.2.resolve_left (by simp)) (h3.2.resolve_left (by simp))]
theorem lexB_asym {x y : List Int} (h : x.length = y.length) (h1 : lexB x y = true) : lexB y x = false := by
  cases h2 : lexB y x
  · rfl
  · have := lexB_trans h h.symm h1 h2
    rw [lexB_irr] at this
    exact absurd this (by simp)
/-- Not more than. -/
theorem lexB_le_trans {x y z : List Int} (e1 : x.length = y.length) (e2 : y.length = z.length) (h1 : lexB y x = false) (h2 : lexB z y = false) : lexB z x = false := by
  cases h : lexB z x
  · rfl
  · cases h3 : lexB x y
    · have := lexB_total e1 h3 h1; subst this; rw [h2] at h; exact absurd h (by simp)
    · rw [lexB_trans (e2.symm.trans e1.symm) e1 h h3] at h2; exact absurd h2 (by simp)

/-- The better one of two orders. -/
def pickF (a : Al) (s σ : List Int) : List Int := if lexB (codeL (ren a σ)) (codeL (ren a s)) then σ else s
theorem pickF_mem (a : Al) : ∀ (l : List (List Int)) (s : List Int), l.foldl (pickF a) s ∈ s :: l
  | [], s => by simp
  | σ :: l, s => by
    rw [List.foldl_cons]
    have h := pickF_mem a l (pickF a s σ)
    have h2 : pickF a s σ = s ∨ pickF a s σ = σ := by
      unfold pickF
      split
      · exact .inr rfl
      · exact .inl rfl
    rcases h2 with h2 | h2 <;> rw [h2] at h ⊢
    · rcases List.mem_cons.1 h with h | h
      · rw [h]; simp
      · simp [h]
    · exact List.mem_cons_of_mem _ h
theorem pickF_min (a : Al) : ∀ (l : List (List Int)) (s : List Int), ∀ σ ∈ s :: l, lexB (codeL (ren a σ)) (codeL (ren a (l.foldl (pickF a) s))) = false
  | [], s, σ, h => by
    simp only [List.mem_singleton] at h
    subst h
    exact lexB_irr _
  | τ :: l, s, σ, h => by
    rw [List.foldl_cons]
    have ih := pickF_min a l (pickF a s τ)
    have h1 := ih (pickF a s τ) (by simp)
    have hl : ∀ σ τ : List Int, (codeL (ren a σ)).length = (codeL (ren a τ)).length := fun σ τ => by rw [codeL_length, codeL_length]
    have h2 : lexB (codeL (ren a s)) (codeL (ren a (pickF a s τ))) = false ∧ lexB (codeL (ren a τ)) (codeL (ren a (pickF a s τ))) = false := by
      unfold pickF
      cases hc : lexB (codeL (ren a τ)) (codeL (ren a s))
      · simp only [Bool.false_eq_true, if_false]
        exact ⟨lexB_irr _, hc⟩
      · simp only [if_true]
        exact ⟨lexB_asym (hl _ _) hc, lexB_irr _⟩
    rcases List.mem_cons.1 h with h | h
    · subst h; exact lexB_le_trans (hl _ _) (hl _ _) h1 h2.1
    · rcases List.mem_cons.1 h with h | h
      · subst h; exact lexB_le_trans (hl _ _) (hl _ _) h1 h2.2
      · exact ih σ (by simp [h])

theorem freshL_range {n k : Nat} (h : k < n) : ∃ r, freshL n (rangeI k) = (k : Int) :: r := by
  refine ⟨((rangeI n).drop (k + 1)).filter fun x => !((rangeI k).contains x), ?_⟩
  unfold freshL
  conv => lhs; rw [← List.take_append_drop k (rangeI n)]
  rw [List.filter_append, rangeI_take (n := n) (k := k) (by omega), List.drop_eq_getElem_cons (by rw [rangeI_length]; exact h), rangeI_get]
  rw [show (rangeI k).filter (fun x => !((rangeI k).contains x)) = [] by simp]
  rw [List.nil_append, List.filter_cons_of_pos]
  simp [mem_rangeI]
theorem ords_head {n : Nat} : ∀ (m k : Nat), k + m = n → ∃ r, ords n m (rangeI k) = rangeI n :: r
  | 0, k, h => ⟨[], by simp at h; subst h; rfl⟩
  | m + 1, k, h => by
    have hkn : k < n := by omega
    obtain ⟨r, hr⟩ := freshL_range hkn
    obtain ⟨r', hr'⟩ := ords_head (n := n) m (k + 1) (by omega)
    simp only [ords]
    rw [hr, List.flatMap_cons, ← rangeI_succ k, hr']
    exact ⟨_, rfl⟩
def restO (n : Nat) : List (List Int) := (ords n n []).tail
theorem ords_cons (n : Nat) : ords n n [] = idL n :: restO n := by
  obtain ⟨r, hr⟩ := ords_head (n := n) n 0 (by omega)
  have e : rangeI 0 = [] := rfl
  rw [e] at hr
  unfold restO
  rw [hr]
  rfl

/-- The order that makes the least code. -/
def bestN (a : Al) : List Int := (restO a.1.toNat).foldl (pickF a) (idL a.1.toNat)
def formL (a : Al) : Al := ren a (bestN a)

theorem foldC_pick (a : Al) : ∀ (l : List (List Int)) (s : List Int), l.foldl (stepC a) (some s, codeL (ren a s), ren a s) = (some (l.foldl (pickF a) s), codeL (ren a (l.foldl (pickF a) s)), ren a (l.foldl (pickF a) s))
  | [], _ => rfl
  | σ :: l, s => by
    rw [List.foldl_cons, List.foldl_cons]
    have : stepC a (some s, codeL (ren a s), ren a s) σ = (some (pickF a s σ), codeL (ren a (pickF a s σ)), ren a (pickF a s σ)) := by
      unfold stepC pickF
      cases lexB (codeL (ren a σ)) (codeL (ren a s)) <;> simp
    rw [this, foldC_pick a l]
theorem bestC_eq (a : Al) : bestC a = (some (bestN a), codeL (formL a), formL a) := by
  unfold bestC
  rw [ords_cons, List.foldl_cons]
  exact foldC_pick a _ _
theorem canonical_form {a : Al} (ha : algB a = true) : impl_canonical a = some (formL a, bestN a) := by
  rw [canonical_eq ha, bestC_eq]
  rfl
theorem id_ap {n : Nat} : ∀ x : Int, 0 ≤ x → x < n → ap (idL n) x = x := fun _ h0 h1 => ap_id ⟨h0, h1⟩
theorem ren_idL {a : Al} (ha : algB a = true) : ren a (idL a.1.toNat) = a := by
  obtain ⟨h1, h8, h4, hf⟩ := algB_size ha
  have hn : a.1 = ((a.1.toNat : Nat) : Int) := by omega
  exact ren_id ha (by have := id_perm a.1.toNat; rwa [← hn] at this) fun x h0 h1 => id_ap x h0 (by omega)
theorem best_perm {a : Al} (ha : algB a = true) : permP a.1 (bestN a) := by
  obtain ⟨h1, h8, h4, hf⟩ := algB_size ha
  have hn : a.1 = ((a.1.toNat : Nat) : Int) := by omega
  have : bestN a ∈ ords a.1.toNat a.1.toNat [] := by rw [ords_cons]; exact pickF_mem a _ _
  have := ords_perm this
  rwa [← hn] at this
theorem best_min {a : Al} (ha : algB a = true) {σ : List Int} (h : permP a.1 σ) : lexB (codeL (ren a σ)) (codeL (formL a)) = false := by
  obtain ⟨h1, h8, h4, hf⟩ := algB_size ha
  have hn : a.1 = ((a.1.toNat : Nat) : Int) := by omega
  have : σ ∈ ords a.1.toNat a.1.toNat [] := perm_ords (by rwa [← hn])
  rw [ords_cons] at this
  exact pickF_min a _ _ _ this

theorem form_algB {a : Al} (ha : algB a = true) : algB (formL a) = true := ren_algB ha (best_perm ha)
/-- The forms are the same when, and only when, one is the other with renamed elements. -/
theorem form_iff {a b : Al} (ha : algB a = true) (hb : algB b = true) : formL a = formL b ↔ ∃ σ, permP a.1 σ ∧ ren a σ = b := by
  constructor
  · intro e
    have hab := congrArg (fun x : Al => x.1) e
    have hab : a.1 = b.1 := hab
    have hpa := best_perm ha
    have hpb := best_perm hb
    rw [← hab] at hpb
    refine ⟨comp (invL (bestN b)) (bestN a), comp_perm hpa (inv_perm hpb), ?_⟩
    rw [← ren_comp ha hpa (inv_perm hpb)]
    exact ren_inv hb (best_perm hb) e.symm
  · rintro ⟨σ, hσ, rfl⟩
    have hn : (ren a σ).1 = a.1 := rfl
    have hpa := best_perm ha
    have hpb := best_perm hb
    have hback := ren_inv ha hσ rfl
    have hc1 : lexB (codeL (formL (ren a σ))) (codeL (formL a)) = false := by
      unfold formL
      rw [ren_comp ha hσ hpb]
      exact best_min ha (comp_perm hσ hpb)
    have hc2 : lexB (codeL (formL a)) (codeL (formL (ren a σ))) = false := by
      have e : formL a = ren (ren a σ) (comp (bestN a) (invL σ)) := by
        rw [← ren_comp hb (inv_perm hσ) hpa, hback]; rfl
      rw [e]
      exact best_min hb (comp_perm (inv_perm hσ) hpa)
    have hl : (codeL (formL a)).length = (codeL (formL (ren a σ))).length := by
      unfold formL
      rw [codeL_length, codeL_length, codeL_length]
    refine (same_iff (form_algB ha) (form_algB hb)).1 ⟨rfl, ?_, lexB_total hl hc2 hc1⟩
    unfold formL
    rw [ren_type, ren_type, ren_type]

theorem names_all {n : Nat} (h8 : n ≤ 8) : spec_l31Names 30 (n : Int) [] = some (ords n n []) ∧ (ords n n []).length ≤ 16777216 := by
  obtain ⟨h1, h2⟩ := l31Names_eq h8 n 30 [] (begun_nil n) (by simp) (by omega)
  refine ⟨h1, ?_⟩
  have : 8 ^ n ≤ 8 ^ 8 := Nat.pow_le_pow_right (by omega) h8
  simp only [Nat.reducePow] at this
  omega

theorem loop_from {ρ σ : Type} {f : σ → Option (Lp σ ρ)} {α β : Type} (x0 : α) (xs : List α) (g : β → α → β) (b0 : β) (mk : β → Int → σ) (out : β → ρ) (hn : xs.length < 4611686018427387904)
    (hm : ∀ (k : Nat) (h : k < xs.length) (b : β), b = (xs.take k).foldl g b0 → f (mk b ((k + 1 : Nat) : Int)) = some (.more (mk (g b xs[k]) ((k + 2 : Nat) : Int))))
    (hd : ∀ b, b = xs.foldl g b0 → f (mk b ((xs.length + 1 : Nat) : Int)) = some (.done (out b))) : loopO f (mk b0 1) = some (out (xs.foldl g b0)) := by
  refine loop_nat (fun k => mk ((xs.take k).foldl g b0) ((k + 1 : Nat) : Int)) xs.length (fun k hk => ?_) (by simpa using hd _ rfl)
  have e : (xs.take (k + 1)).foldl g b0 = g ((xs.take k).foldl g b0) xs[k] := by
    rw [List.take_add_one, List.getElem?_eq_getElem hk, List.foldl_append]
    rfl
  rw [hm k hk _ rfl, e]

theorem l31First_eq {a : Al} (ha : algB a = true) : spec_l31First a = some (bestN a) := by
  obtain ⟨h1, h8, h4, hf⟩ := algB_size ha
  have hn : a.1 = ((a.1.toNat : Nat) : Int) := by omega
  obtain ⟨n1, n2⟩ := names_all (n := a.1.toNat) (by omega)
  rw [← hn] at n1
  unfold spec_l31First
  rw [n1, ords_cons]
  simp only [Option.bind_some]
  rw [show (0 : Int) = ((0 : Nat) : Int) from rfl, idx_nat (by simp)]
  simp only [Option.bind_some, List.getElem_cons_zero]
  rw [show spec_l31Code a = impl_codeOf a from rfl, codeOf_eq ha]
  simp only [Option.bind_some]
  rw [ords_cons, List.length_cons] at n2
  have hlp := loop_from (idL a.1.toNat) (restO a.1.toNat) (pickF a) (idL a.1.toNat) (fun s i => (s, codeL (ren a s), i)) id (by omega) (f := (fun s37 : (List Int) × (List Int) × Int =>
      if decide (s37.2.2 < ((idL a.1.toNat :: restO a.1.toNat).length : Int)) = true then
        Option.bind (idx (idL a.1.toNat :: restO a.1.toNat) s37.2.2) fun x38 =>
        Option.bind (spec_l2Rename a x38) fun x39 =>
        Option.bind (spec_l31Code x39) fun x40 =>
        Option.bind (spec_l5Less x40 s37.2.1) fun x41 =>
        Option.bind (α := ((List Int) × (List Int))) (
          if x41 = true then
            Option.bind (idx (idL a.1.toNat :: restO a.1.toNat) s37.2.2) fun x45 =>
            some (x45, x40)
          else
            some (s37.1, s37.2.1))
        (fun s43 =>
        some (Lp.more (s43.1, (s43.2, w64 (s37.2.2 + (1 : Int))))))
      else
        some (Lp.done s37.1))) (fun k hk b hb => ?_) (fun b hb => ?_)
  · rw [ren_idL ha] at hlp
    exact congrArg (fun o => Option.bind o some) hlp
  · have hp : permP a.1 (restO a.1.toNat)[k] := by
      have : (restO a.1.toNat)[k] ∈ ords a.1.toNat a.1.toNat [] := by rw [ords_cons]; exact List.mem_cons_of_mem _ (List.getElem_mem hk)
      have := ords_perm this
      rwa [← hn] at this
    have h2 : ((k + 1 : Nat) : Int) < ((idL a.1.toNat :: restO a.1.toNat).length : Int) := by simp; omega
    simp only [h2, decide_true, if_true]
    rw [idx_nat (by simpa using hk)]
    simp only [Option.bind_some, List.getElem_cons_succ]
    rw [l2Rename_ren ha hp]
    simp only [Option.bind_some]
    rw [show spec_l31Code = impl_codeOf from rfl, codeOf_eq (ren_algB ha hp)]
    simp only [Option.bind_some]
    rw [l5Less_eq (by rw [codeL_length, codeL_length]) (by have := codeL_small ha; rw [codeL_length]; omega), w64_eq (by omega) (by omega)]
    unfold pickF
    cases lexB (codeL (ren a (restO a.1.toNat)[k])) (codeL (ren a b)) <;> simp <;> omega
  · simp
theorem l31Form_eq {a : Al} (ha : algB a = true) : spec_l31Form a = some (formL a) := by
  unfold spec_l31Form
  rw [l31First_eq ha]
  simp only [Option.bind_some, l2Rename_ren ha (best_perm ha)]
  rfl

theorem named_algB {a : Al} (h : namedB a = true) : algB a = true := by
  unfold namedB at h
  simp only [Bool.and_eq_true] at h
  exact h.1
theorem HaveSameForm_eq (a b : Al) : impl_HaveSameForm a b = some (if namedB a && namedB b then (decide (formL a = formL b), true) else (false, false)) := by
  unfold impl_HaveSameForm
  rw [isNamed_eq]
  cases ha : namedB a
  · simp
  · simp only [Option.bind_some, Bool.not_true, Bool.false_eq_true, if_false, isNamed_eq]
    cases hb : namedB b
    · simp
    · simp only [Option.bind_some, Bool.not_true, Bool.false_eq_true, if_false, canonical_form (named_algB ha), canonical_form (named_algB hb)]
      rw [sameAlgebra_eq (form_algB (named_algB ha)) (form_algB (named_algB hb))]
      rfl
theorem spec_HaveSameForm_eq (a b : Al) : spec_HaveSameForm a b = some (if namedB a && namedB b then (decide (formL a = formL b), true) else (false, false)) := by
  unfold spec_HaveSameForm
  rw [l31Takes_eq]
  cases ha : namedB a
  · simp
  · simp only [Option.bind_some, Bool.not_true, Bool.false_eq_true, if_false, l31Takes_eq]
    cases hb : namedB b
    · simp
    · simp only [Option.bind_some, Bool.not_true, Bool.false_eq_true, if_false, l31Form_eq (named_algB ha), l31Form_eq (named_algB hb)]
      rw [l31Same_eq (form_algB (named_algB ha)) (form_algB (named_algB hb))]
      rfl
end Go.Pure
namespace Go.Pure
open Go.Abs

theorem mem_syms {a : Al} (ha : algB a = true) {σ : List Int} : σ ∈ symsL a ↔ permP a.1 σ ∧ ren a σ = a := by
  obtain ⟨h1, h8, h4, hf⟩ := algB_size ha
  have hn : a.1 = ((a.1.toNat : Nat) : Int) := by omega
  unfold symsL
  rw [List.mem_filter, mem_ords, ← hn, decide_eq_true_eq]
theorem syms_nodup (a : Al) : (symsL a).Nodup := List.Pairwise.filter _ (ords_nodup _ _)

theorem SymmetriesOf_eq (a : Al) : impl_SymmetriesOf a = some (if namedB a then (symsL a, true) else ([], false)) := by
  unfold impl_SymmetriesOf
  rw [isNamed_eq]
  cases ha : namedB a
  · simp
  · simp only [Option.bind_some, Bool.not_true, Bool.false_eq_true, if_false, symmetries_eq (named_algB ha)]
    rfl

theorem spec_SymmetriesOf_eq (a : Al) : spec_SymmetriesOf a = some (if namedB a then (symsL a, true) else ([], false)) := by
  unfold spec_SymmetriesOf
  rw [l31Takes_eq]
  cases hna : namedB a
  · simp
  have ha := named_algB hna
  obtain ⟨h1, h8, h4, hf⟩ := algB_size ha
  have hn : a.1 = ((a.1.toNat : Nat) : Int) := by omega
  obtain ⟨n1, n2⟩ := names_all (n := a.1.toNat) (by omega)
  rw [← hn] at n1
  simp only [Option.bind_some, Bool.not_true, Bool.false_eq_true, if_false, n1]
  have hlp := loop_foldN (ords a.1.toNat a.1.toNat []) (stepS a) [] (fun s i => (s, i)) id (by omega) (f := (fun s39 : (List (List Int)) × Int =>
        if decide (s39.2 < ((ords a.1.toNat a.1.toNat []).length : Int)) = true then
          Option.bind (idx (ords a.1.toNat a.1.toNat []) s39.2) fun x40 =>
          Option.bind (spec_l2Rename a x40) fun x41 =>
          Option.bind (spec_l31Same x41 a) fun x42 =>
          Option.bind (α := (List (List Int))) (
            if x42 = true then
              Option.bind (idx (ords a.1.toNat a.1.toNat []) s39.2) fun x47 =>
              Option.bind (app s39.1 ([x47])) fun x48 =>
              some x48
            else
              some s39.1)
          (fun s45 =>
          some (Lp.more (s45, w64 (s39.2 + (1 : Int)))))
        else
          some (Lp.done s39.1))) (fun k hk b hb => ?_) (fun b hb => ?_)
  · rw [hlp, foldS_eq]
    rfl
  · have hp : permP a.1 (ords a.1.toNat a.1.toNat [])[k] := by
      have := ords_perm (List.getElem_mem hk)
      rwa [← hn] at this
    have h2 : (k : Int) < ((ords a.1.toNat a.1.toNat []).length : Int) := by omega
    have hbl := foldS_len a ((ords a.1.toNat a.1.toNat []).take k) []
    rw [← hb] at hbl
    simp only [List.length_nil, List.length_take] at hbl
    simp only [h2, decide_true, if_true]
    rw [idx_nat hk]
    simp only [Option.bind_some]
    rw [l2Rename_ren ha hp]
    simp only [Option.bind_some]
    rw [l31Same_eq (ren_algB ha hp) ha]
    by_cases e : ren a (ords a.1.toNat a.1.toNat [])[k] = a
    · simp only [Option.bind_some, e, decide_true, if_true]
      rw [app_ok (by simp; omega)]
      simp [stepS, e]
    · simp [stepS, e]
  · simp

/-- A list with each of its values once, in the order of the first times. -/
def onceF (st : List (List Int)) (x : List Int) : List (List Int) := if x ∈ st then st else st ++ [x]
theorem once_nodup : ∀ (l st : List (List Int)), st.Nodup → (l.foldl onceF st).Nodup
  | [], _, h => h
  | x :: l, st, h => by
    rw [List.foldl_cons]
    refine once_nodup l _ ?_
    unfold onceF
    split
    · exact h
    · next hx =>
      rw [List.nodup_append]
      refine ⟨h, by simp, fun y hy z hz e => ?_⟩
      simp only [List.mem_singleton] at hz
      subst hz; subst e
      exact hx hy
theorem once_mem : ∀ (l st : List (List Int)) (x : List Int), x ∈ l.foldl onceF st ↔ x ∈ st ∨ x ∈ l
  | [], st, x => by simp
  | y :: l, st, x => by
    rw [List.foldl_cons, once_mem l]
    unfold onceF
    split
    · next hy =>
      constructor
      · rintro (h | h)
        · exact .inl h
        · exact .inr (by simp [h])
      · rintro (h | h)
        · exact .inl h
        · rcases List.mem_cons.1 h with rfl | h
          · exact .inl hy
          · exact .inr h
    · simp [or_assoc]
theorem once_len : ∀ (l st : List (List Int)), (l.foldl onceF st).length ≤ st.length + l.length
  | [], st => by simp
  | y :: l, st => by
    rw [List.foldl_cons]
    have := once_len l (onceF st y)
    have h : (onceF st y).length ≤ st.length + 1 := by unfold onceF; split <;> simp
    simp only [List.length_cons]
    omega

/-- Where a code stands in a list: its place, or -1. -/
theorem place_eq {ts : List (List Int)} {t : List Int} (h : ts.length < 4611686018427387904) (hl : ∀ x ∈ ts, x.length < 4611686018427387904) : ∃ p, spec_l12Place ts t = some p ∧ decide (p < 0) = !(ts.contains t) := by
  let r : Nat → Ex Unit Int := fun k => if t ∈ ts.drop k then .out ((k + (ts.drop k).idxOf t : Nat) : Int) else .fall ()
  unfold spec_l12Place
  rw [loop_drop (n := ts.length) r h (fun k hk => ?_) (by simp [r])]
  · by_cases ht : t ∈ ts
    · simp only [r, List.drop_zero, ht, if_true, Option.bind_some, Ex.cont]
      exact ⟨_, rfl, by simp [ht]⟩
    · simp only [r, List.drop_zero, ht, if_false, Option.bind_some, Ex.cont]
      exact ⟨_, rfl, by simp [ht]⟩
  · have h1 : (k : Int) < (ts.length : Int) := by omega
    simp only [h1, decide_true, if_true, idx_nat hk, Option.bind_some]
    rw [l1Same_eq (hl _ (List.getElem_mem hk))]
    simp only [Option.bind_some]
    have e : ts.drop k = ts[k] :: ts.drop (k + 1) := List.drop_eq_getElem_cons hk
    by_cases he : ts[k] = t
    · refine .inl ?_
      simp [r, he, e]
    · refine .inr ⟨by simp [he], ?_⟩
      have he' : ¬ t = ts[k] := fun h => he h.symm
      simp only [r, e, List.mem_cons, he', false_or]
      by_cases hm : t ∈ ts.drop (k + 1)
      · simp only [hm, if_true]
        rw [List.idxOf_cons, show (ts[k] == t) = false by simpa using he]
        simp only [cond_false]
        congr 2
        omega
      · simp only [hm, if_false]

def copiesL (a : Al) : List (List Int) := ((ords a.1.toNat a.1.toNat []).map fun σ => codeL (ren a σ)).foldl onceF []
theorem spec_CountCopies_eq (a : Al) : spec_CountCopies a = some (if namedB a then (((copiesL a).length : Int), true) else (0, false)) := by
  unfold spec_CountCopies
  rw [l31Takes_eq]
  cases hna : namedB a
  · simp
  have ha := named_algB hna
  obtain ⟨h1, h8, h4, hf⟩ := algB_size ha
  have hn : a.1 = ((a.1.toNat : Nat) : Int) := by omega
  obtain ⟨n1, n2⟩ := names_all (n := a.1.toNat) (by omega)
  rw [← hn] at n1
  simp only [Option.bind_some, Bool.not_true, Bool.false_eq_true, if_false, n1]
  have hlp := loop_foldN (ords a.1.toNat a.1.toNat []) (fun st σ => onceF st (codeL (ren a σ))) [] (fun s i => (s, i)) id (by omega) (f := (fun s36 : (List (List Int)) × Int =>
        if decide (s36.2 < ((ords a.1.toNat a.1.toNat []).length : Int)) = true then
          Option.bind (idx (ords a.1.toNat a.1.toNat []) s36.2) fun x37 =>
          Option.bind (spec_l2Rename a x37) fun x38 =>
          Option.bind (spec_l31Code x38) fun x39 =>
          Option.bind (spec_l12Place s36.1 x39) fun x40 =>
          Option.bind (α := (List (List Int))) (
            if decide (x40 < (0 : Int)) = true then
              Option.bind (app s36.1 ([x39])) fun x44 =>
              some x44
            else
              some s36.1)
          (fun s42 =>
          some (Lp.more (s42, w64 (s36.2 + (1 : Int)))))
        else
          some (Lp.done s36.1))) (fun k hk b hb => ?_) (fun b hb => ?_)
  · rw [hlp]
    unfold copiesL
    rw [List.foldl_map]
    rfl
  · have hp : permP a.1 (ords a.1.toNat a.1.toNat [])[k] := by
      have := ords_perm (List.getElem_mem hk)
      rwa [← hn] at this
    have h2 : (k : Int) < ((ords a.1.toNat a.1.toNat []).length : Int) := by omega
    rw [← List.foldl_map (f := fun σ => codeL (ren a σ)) (g := onceF)] at hb
    have hbl := once_len (((ords a.1.toNat a.1.toNat []).take k).map fun σ => codeL (ren a σ)) []
    rw [← hb] at hbl
    simp only [List.length_nil, List.length_map, List.length_take] at hbl
    have hbm : ∀ x ∈ b, x.length < 4611686018427387904 := by
      intro x hx
      rw [hb, once_mem] at hx
      rcases hx with hx | hx
      · simp at hx
      · obtain ⟨σ, _, rfl⟩ := List.mem_map.1 hx
        have := codeL_small ha
        rw [codeL_length]; omega
    simp only [h2, decide_true, if_true]
    rw [idx_nat hk]
    simp only [Option.bind_some]
    rw [l2Rename_ren ha hp]
    simp only [Option.bind_some]
    rw [show spec_l31Code = impl_codeOf from rfl, codeOf_eq (ren_algB ha hp)]
    simp only [Option.bind_some]
    obtain ⟨p, p1, p2⟩ := place_eq (ts := b) (t := codeL (ren a (ords a.1.toNat a.1.toNat [])[k])) (by omega) hbm
    rw [p1]
    simp only [Option.bind_some, p2]
    by_cases e : codeL (ren a (ords a.1.toNat a.1.toNat [])[k]) ∈ b
    · simp [onceF, e]
    · simp only [List.contains_eq_mem, decide_eq_false e, Bool.not_false, if_true]
      rw [app_ok (by simp; omega)]
      simp [onceF, e]
  · simp

/-- The orders that make one copy are as many as the symmetries. -/
theorem fibre_len {a : Al} (ha : algB a = true) {σ : List Int} (hσ : permP a.1 σ) : ((ords a.1.toNat a.1.toNat []).filter fun τ => decide (codeL (ren a τ) = codeL (ren a σ))).length = (symsL a).length := by
  obtain ⟨h1, h8, h4, hf⟩ := algB_size ha
  have hn : a.1 = ((a.1.toNat : Nat) : Int) := by omega
  have hmem : ∀ τ, τ ∈ (ords a.1.toNat a.1.toNat []).filter (fun τ => decide (codeL (ren a τ) = codeL (ren a σ))) ↔ permP a.1 τ ∧ ren a τ = ren a σ := by
    intro τ
    rw [List.mem_filter, mem_ords, ← hn, decide_eq_true_eq]
    constructor
    · rintro ⟨h, e⟩
      exact ⟨h, (same_iff (ren_algB ha h) (ren_algB ha hσ)).1 ⟨rfl, by rw [ren_type, ren_type], e⟩⟩
    · rintro ⟨h, e⟩
      exact ⟨h, by rw [e]⟩
  have hinj : ∀ {ρ : List Int}, permP a.1 ρ → ∀ {x y : List Int}, permP a.1 x → permP a.1 y → comp ρ x = comp ρ y → x = y := by
    intro ρ hρ x y hx hy e
    refine names_ext hx.1.1 hy.1.1 fun i i0 i1 => ?_
    have : ap (comp ρ x) i = ap (comp ρ y) i := by rw [e]
    rw [ap_comp hx.1.1 ⟨i0, i1⟩, ap_comp hy.1.1 ⟨i0, i1⟩] at this
    exact ap_inj hρ (ap_range hx.1 i0 i1) (ap_range hy.1 i0 i1) this
  have hmapnd : ∀ (ρ : List Int), permP a.1 ρ → ∀ l : List (List Int), l.Nodup → (∀ x ∈ l, permP a.1 x) → (l.map (comp ρ)).Nodup := by
    intro ρ hρ l
    induction l with
    | nil => intro _ _; simp
    | cons x l ih =>
      intro hnd hall
      have hc := List.nodup_cons.1 hnd
      rw [List.map_cons, List.nodup_cons]
      refine ⟨fun hx => ?_, ih hc.2 fun y hy => hall y (by simp [hy])⟩
      obtain ⟨y, hy, e⟩ := List.mem_map.1 hx
      have := hinj hρ (hall y (by simp [hy])) (hall x (by simp)) e
      subst this
      exact hc.1 hy
  apply Nat.le_antisymm
  · have h := nodup_len (l := ((ords a.1.toNat a.1.toNat []).filter fun τ => decide (codeL (ren a τ) = codeL (ren a σ))).map (comp (invL σ))) (m := symsL a)
      (hmapnd _ (inv_perm hσ) _ (List.Pairwise.filter _ (ords_nodup _ _)) fun x hx => ((hmem x).1 hx).1) (fun x hx => by
        obtain ⟨τ, hτ, rfl⟩ := List.mem_map.1 hx
        obtain ⟨t1, t2⟩ := (hmem τ).1 hτ
        rw [mem_syms ha]
        refine ⟨comp_perm t1 (inv_perm hσ), ?_⟩
        rw [← ren_comp ha t1 (inv_perm hσ), t2]
        exact ren_inv ha hσ rfl)
    rwa [List.length_map] at h
  · have h := nodup_len (l := (symsL a).map (comp σ)) (m := (ords a.1.toNat a.1.toNat []).filter fun τ => decide (codeL (ren a τ) = codeL (ren a σ)))
      (hmapnd _ hσ _ (syms_nodup a) fun x hx => ((mem_syms ha).1 hx).1) (fun x hx => by
        obtain ⟨τ, hτ, rfl⟩ := List.mem_map.1 hx
        obtain ⟨t1, t2⟩ := (mem_syms ha).1 hτ
        rw [hmem]
        refine ⟨comp_perm t1 hσ, ?_⟩
        rw [← ren_comp ha t1 hσ, t2])
    rwa [List.length_map] at h

theorem count_fibres {α : Type} (f : α → List Int) (c : Nat) (l : List α) : ∀ ds : List (List Int), ds.Nodup → (∀ d ∈ ds, (l.filter fun x => decide (f x = d)).length = c) → (l.filter fun x => decide (f x ∈ ds)).length = ds.length * c
  | [], _, _ => by simp
  | d :: ds, hnd, h => by
    have hc := List.nodup_cons.1 hnd
    have ih := count_fibres f c l ds hc.2 fun e he => h e (by simp [he])
    have hs := filter_split (fun x => decide (f x = d)) (l.filter fun x => decide (f x ∈ d :: ds))
    rw [List.filter_filter, List.filter_filter] at hs
    have e1 : (l.filter fun x => decide (f x = d) && decide (f x ∈ d :: ds)) = l.filter fun x => decide (f x = d) := by
      refine List.filter_congr fun x _ => ?_
      by_cases he : f x = d <;> simp [he]
    have e2 : (l.filter fun x => !decide (f x = d) && decide (f x ∈ d :: ds)) = l.filter fun x => decide (f x ∈ ds) := by
      refine List.filter_congr fun x _ => ?_
      by_cases he : f x = d
      · have : ¬ d ∈ ds := hc.1
        simp [he, this]
      · simp [he]
    rw [e1, e2, h d (by simp), ih] at hs
    rw [hs, List.length_cons, Nat.succ_mul]
    omega

theorem orbit_count {a : Al} (ha : algB a = true) : (copiesL a).length * (symsL a).length = factN a.1.toNat := by
  obtain ⟨h1, h8, h4, hf⟩ := algB_size ha
  have hn : a.1 = ((a.1.toNat : Nat) : Int) := by omega
  have hm : ∀ d, d ∈ copiesL a ↔ ∃ σ ∈ ords a.1.toNat a.1.toNat [], codeL (ren a σ) = d := by
    intro d
    unfold copiesL
    rw [once_mem]
    simp [List.mem_map]
  have h := count_fibres (fun σ => codeL (ren a σ)) (symsL a).length (ords a.1.toNat a.1.toNat []) (copiesL a) (once_nodup _ _ List.nodup_nil) (fun d hd => by
    obtain ⟨σ, hσ, rfl⟩ := (hm d).1 hd
    refine fibre_len ha ?_
    have := ords_perm hσ
    rwa [← hn] at this)
  rw [← h, ← ords_fact]
  congr 1
  rw [List.filter_eq_self]
  intro σ hσ
  exact decide_eq_true ((hm _).2 ⟨σ, hσ, rfl⟩)

theorem syms_pos {a : Al} (ha : algB a = true) : 1 ≤ (symsL a).length := by
  obtain ⟨h1, h8, h4, hf⟩ := algB_size ha
  have hn : a.1 = ((a.1.toNat : Nat) : Int) := by omega
  refine List.length_pos_of_mem (a := idL a.1.toNat) ((mem_syms ha).2 ⟨?_, ren_idL ha⟩)
  have := id_perm a.1.toNat
  rwa [← hn] at this

theorem fact_loop {n : Int} (h1 : 1 ≤ n) (h5 : n ≤ 5) : loopO (σ := (Int × Int)) (ρ := Int) (fun s8 =>
        if decide (s8.2 ≤ n) = true then
          some (Lp.more (w64 (s8.1 * s8.2), w64 (s8.2 + (1 : Int))))
        else
          some (Lp.done s8.1)) ((1 : Int), (2 : Int)) = some (factN n.toNat : Int) := by
  have hn : n = 1 ∨ n = 2 ∨ n = 3 ∨ n = 4 ∨ n = 5 := by omega
  rcases hn with rfl | rfl | rfl | rfl | rfl <;>
    (rw [loop_unfold]; simp [w64_eq, factN]; try (rw [loop_unfold]; simp [w64_eq]; try (rw [loop_unfold]; simp [w64_eq]; try (rw [loop_unfold]; simp [w64_eq]; try (rw [loop_unfold]; simp [w64_eq])))))

theorem fact_small {n : Nat} (h : n ≤ 5) : factN n ≤ 120 := by
  have hn : n = 0 ∨ n = 1 ∨ n = 2 ∨ n = 3 ∨ n = 4 ∨ n = 5 := by omega
  rcases hn with rfl | rfl | rfl | rfl | rfl | rfl <;> decide

theorem named_size {a : Al} (h : namedB a = true) : a.1 ≤ 5 := by
  unfold namedB at h
  simp only [Bool.and_eq_true, decide_eq_true_eq] at h
  exact h.2
theorem CountCopies_eq (a : Al) : impl_CountCopies a = some (if namedB a then (((copiesL a).length : Int), true) else (0, false)) := by
  unfold impl_CountCopies
  rw [isNamed_eq]
  cases hna : namedB a
  · simp
  have ha := named_algB hna
  obtain ⟨h1, h8, h4, hf⟩ := algB_size ha
  have h5 := named_size hna
  simp only [Option.bind_some, Bool.not_true, Bool.false_eq_true, if_false, fact_loop h1 h5, symmetries_eq ha]
  have hp := syms_pos ha
  have hc := orbit_count ha
  have hs := fact_small (n := a.1.toNat) (by omega)
  rw [need_eq (by omega)]
  have e : ((factN a.1.toNat : Nat) : Int).tdiv ((symsL a).length : Int) = ((copiesL a).length : Int) := by
    rw [← hc, Int.natCast_mul]
    exact Int.mul_tdiv_cancel _ (by omega)
  have hcl : (copiesL a).length ≤ 120 := by
    have : (copiesL a).length * 1 ≤ (copiesL a).length * (symsL a).length := Nat.mul_le_mul_left _ hp
    omega
  rw [e, w64_eq (by omega) (by omega)]
  rfl
end Go.Pure
namespace Go.Pure
open Go.Abs

def foldE {α β γ : Type} (g : β → α → Except γ β) : List α → β → Except γ β
  | [], b => .ok b
  | x :: xs, b => match g b x with
    | .ok b' => foldE g xs b'
    | .error e => .error e

theorem foldE_inv {α β γ : Type} {g : β → α → Except γ β} (I : β → Prop) : ∀ (xs : List α) (b : β), (∀ x ∈ xs, ∀ b b', I b → g b x = .ok b' → I b') → I b → ∀ b', foldE g xs b = .ok b' → I b'
  | [], b, _, hb, b', h => by simp only [foldE, Except.ok.injEq] at h; subst h; exact hb
  | x :: xs, b, hg, hb, b', h => by
    simp only [foldE] at h
    cases hx : g b x with
    | error e => rw [hx] at h; simp at h
    | ok c =>
      rw [hx] at h
      exact foldE_inv I xs c (fun y hy => hg y (by simp [hy])) (hg x (by simp) b c hb hx) b' h

theorem loop_foldE {α β γ σ ρ : Type} {f : σ → Option (Lp σ ρ)} (I : β → Prop) (xs : List α) (g : β → α → Except γ β) (b0 : β) (mk : β → Int → σ) (out : Except γ β → ρ) (hn : xs.length < 4611686018427387904) (h0 : I b0)
    (hI : ∀ x ∈ xs, ∀ b b', I b → g b x = .ok b' → I b')
    (hm : ∀ (k : Nat) (h : k < xs.length) (b : β), I b → f (mk b (k : Int)) = some (match g b xs[k] with | .ok b' => .more (mk b' (w64 ((k : Int) + 1))) | .error e => .done (out (.error e))))
    (hd : ∀ b, I b → f (mk b (xs.length : Int)) = some (.done (out (.ok b)))) : loopO f (mk b0 0) = some (out (foldE g xs b0)) := by
  have key : ∀ j k b, j + k = xs.length → I b → Loops f (mk b (k : Int)) (out (foldE g (xs.drop k) b)) := by
    intro j
    induction j with
    | zero =>
      intro k b hk hb
      obtain rfl : k = xs.length := by omega
      rw [List.drop_length]
      exact .done (hd b hb)
    | succ j ih =>
      intro k b hk hb
      have h1 := hm k (by omega) b hb
      rw [List.drop_eq_getElem_cons (show k < xs.length by omega)]
      simp only [foldE]
      cases hg : g b (xs[k]'(by omega)) with
      | error e => rw [hg] at h1; exact .done h1
      | ok c =>
        rw [hg] at h1
        simp only at h1
        rw [w64_eq (by omega) (by omega)] at h1
        exact .more h1 (ih (k + 1) c (by omega) (hI _ (List.getElem_mem _) b c hb hg))
  have := key xs.length 0 b0 (by omega) h0
  rw [List.drop_zero] at this
  exact loop_iff.2 this

/-- A map that is begun: its values are elements or -1. -/
def mapB (n m : Int) (f : List Int) : Prop := (f.length : Int) = n ∧ ∀ x ∈ f, -1 ≤ x ∧ x < m

theorem mapB_ap {n m : Int} {f : List Int} (h : mapB n m f) {x : Int} (h0 : 0 ≤ x) (h1 : x < n) : -1 ≤ ap f x ∧ ap f x < m := by
  have h2 : x.toNat < f.length := by have := h.1; omega
  unfold ap
  rw [List.getD_eq_getElem?_getD, List.getElem?_eq_getElem h2]
  exact h.2 _ (List.getElem_mem h2)

theorem argsD_low {n : Int} (hn : 1 ≤ n) : ∀ (t : Nat) (i : Int), argsD n (t + 1) i = argsD n t (i / n) ++ [i % n]
  | 0, i => by simp [argsD]
  | t + 1, i => by
    have ih := argsD_low hn t i
    have e : i / n / n ^ t = i / n ^ (t + 1) := by
      rw [Int.ediv_ediv]
      have : ¬ n < 0 := by omega
      simp [this, Int.pow_succ, Int.mul_comm]
    calc argsD n (t + 1 + 1) i = ((i / n ^ (t + 1)) % n) :: argsD n (t + 1) i := rfl
      _ = ((i / n / n ^ t) % n) :: (argsD n t (i / n) ++ [i % n]) := by rw [ih, e]
      _ = argsD n (t + 1) (i / n) ++ [i % n] := rfl

theorem idxL_snoc (m : Int) (l : List Int) (x : Int) : idxL m (l ++ [x]) = idxL m l * m + x := by simp [idxL, List.foldl_append]

theorem noneOpen_loop {n : Int} (hn : 1 ≤ n) {f : List Int} (hl : (f.length : Int) = n) : ∀ (t : Nat), t ≤ 1000 → ∀ (i : Int), 0 ≤ i → i < 4611686018427387904 → loopO (σ := (Int × Int)) (ρ := Ex Unit Bool) (fun s16 =>
      if decide ((0 : Int) < s16.2) = true then
        Option.bind (need (n ≠ 0)) fun _ =>
        Option.bind (idx f (s16.1.tmod n)) fun x18 =>
        if decide (x18 < (0 : Int)) = true then
          some (Lp.done (Ex.out false))
        else
          Option.bind (need (n ≠ 0)) fun _ =>
          some (Lp.more (w64 (s16.1.tdiv n), w64 (s16.2 - (1 : Int))))
      else
        some (Lp.done (Ex.fall ()))) (i, (t : Int)) = some (if (argsD n t i).all (fun x => decide (0 ≤ ap f x)) then .fall () else .out false)
  | 0, _, i, h0, h1 => by
    rw [loop_unfold]
    simp [argsD]
  | t + 1, ht, i, h0, h1 => by
    have ih := noneOpen_loop hn hl t (by omega) (i / n) (Int.ediv_nonneg h0 (by omega)) (by have := Int.ediv_le_self n h0; omega)
    simp only [need_eq (show n ≠ 0 by omega)] at ih
    rw [loop_unfold]
    have h2 : (0 : Int) < ((t + 1 : Nat) : Int) := by omega
    have hm0 := Int.emod_nonneg i (show n ≠ 0 by omega)
    have hm1 := Int.emod_lt_of_pos i (show 0 < n by omega)
    have hd0 := Int.ediv_nonneg h0 (show 0 ≤ n by omega)
    have hd1 := Int.ediv_le_self n h0
    simp only [h2, decide_true, if_true, need_eq (show n ≠ 0 by omega)]
    rw [Int.tmod_eq_emod_of_nonneg h0, Int.tdiv_eq_ediv_of_nonneg h0, ap_get hm0 (by omega), argsD_low hn, List.all_append]
    simp only [Option.bind_some, List.all_cons, List.all_nil, Bool.and_true]
    by_cases hx : ap f (i % n) < 0
    · have : ¬ 0 ≤ ap f (i % n) := by omega
      simp [hx, this]
    · have : 0 ≤ ap f (i % n) := by omega
      simp only [hx, decide_false, Bool.false_eq_true, if_false, Option.bind_some, this, decide_true, Bool.and_true]
      rw [w64_eq (x := i / n) (by omega) (by omega), show w64 (((t + 1 : Nat) : Int) - 1) = (t : Int) by rw [w64_eq] <;> omega]
      exact ih

def fullA (f : List Int) (args : List Int) : Bool := args.all fun x => decide (0 ≤ ap f x)
theorem noneOpen_eq {n i k : Int} {f : List Int} (hn : 1 ≤ n) (hl : (f.length : Int) = n) (hk0 : 0 ≤ k) (hk : k ≤ 1000) (h0 : 0 ≤ i) (h1 : i < 4611686018427387904) : impl_noneOpen i k n f = some (fullA f (argsD n k.toNat i)) := by
  unfold impl_noneOpen fullA
  have := noneOpen_loop hn hl k.toNat (by omega) i h0 h1
  rw [show ((k.toNat : Nat) : Int) = k by omega] at this
  rw [this]
  cases (argsD n k.toNat i).all (fun x => decide (0 ≤ ap f x)) <;> rfl

theorem pow_le_small {m : Int} (h1 : 1 ≤ m) (h8 : m ≤ 8) {j : Nat} (h : j ≤ 3) : 1 ≤ m ^ j ∧ m ^ j ≤ 512 := pow_le h1 h8 h

theorem image_loop {a b : Al} (hn : 1 ≤ a.1) (hm1 : 1 ≤ b.1) (hm8 : b.1 ≤ 8) {f : List Int} (hf : mapB a.1 b.1 f) (k : Nat) (hk : k ≤ 3) : ∀ (t j : Nat), t + j = k → ∀ (i acc : Int), 0 ≤ i → i < 4611686018427387904 → 0 ≤ acc → acc < b.1 ^ j →
    fullA f (argsD a.1 t i) = true → loopO (σ := (Int × Int × Int × Int)) (ρ := Int) (fun s16 =>
      if decide (s16.2.2.2 < (k : Int)) = true then
        Option.bind (need (a.1 ≠ 0)) fun _ =>
        Option.bind (idx f (s16.1.tmod a.1)) fun x18 =>
        Option.bind (need (a.1 ≠ 0)) fun _ =>
        some (Lp.more (w64 (s16.1.tdiv a.1), (w64 (s16.2.1 + (w64 (x18 * s16.2.2.1))), (w64 (s16.2.2.1 * b.1), w64 (s16.2.2.2 + (1 : Int))))))
      else
        some (Lp.done s16.2.1)) (i, (acc, (b.1 ^ j, (j : Int)))) = some (acc + b.1 ^ j * idxL b.1 ((argsD a.1 t i).map (ap f)))
  | 0, j, hj, i, acc, _, _, _, _, _ => by
    rw [loop_unfold]
    have h2 : ¬ (j : Int) < (k : Int) := by omega
    simp [h2, argsD, idxL]
  | t + 1, j, hj, i, acc, h0, h1, ha0, ha1, hfull => by
    rw [loop_unfold]
    have h2 : (j : Int) < (k : Int) := by omega
    have hm0 := Int.emod_nonneg i (show a.1 ≠ 0 by omega)
    have hm1' := Int.emod_lt_of_pos i (show 0 < a.1 by omega)
    have hd0 := Int.ediv_nonneg h0 (show 0 ≤ a.1 by omega)
    have hd1 := Int.ediv_le_self a.1 h0
    rw [argsD_low hn] at hfull ⊢
    unfold fullA at hfull
    rw [List.all_append] at hfull
    simp only [List.all_cons, List.all_nil, Bool.and_true, Bool.and_eq_true, decide_eq_true_eq] at hfull
    have hx1 := mapB_ap hf hm0 hm1'
    have hp := pow_le hm1 hm8 (show j ≤ 3 by omega)
    have hp1 := pow_le hm1 hm8 (show j + 1 ≤ 3 by omega)
    have hmul : ap f (i % a.1) * b.1 ^ j ≤ 7 * 512 := Int.mul_le_mul (by omega) hp.2 (by omega) (by omega)
    have hmul0 : 0 ≤ ap f (i % a.1) * b.1 ^ j := Int.mul_nonneg hfull.2 (by omega)
    have hnew : acc + ap f (i % a.1) * b.1 ^ j < b.1 ^ (j + 1) := by
      have h5 : (ap f (i % a.1) + 1) * b.1 ^ j ≤ b.1 * b.1 ^ j := Int.mul_le_mul_of_nonneg_right (by omega) (by omega)
      rw [Int.add_mul, Int.one_mul] at h5
      rw [Int.pow_succ, Int.mul_comm (b.1 ^ j)]
      omega
    have ih := image_loop hn hm1 hm8 hf k hk t (j + 1) (by omega) (i / a.1) (acc + ap f (i % a.1) * b.1 ^ j) hd0 (by omega) (by omega) hnew hfull.1
    simp only [need_eq (show a.1 ≠ 0 by omega)] at ih
    simp only [h2, decide_true, if_true, need_eq (show a.1 ≠ 0 by omega)]
    rw [Int.tmod_eq_emod_of_nonneg h0, Int.tdiv_eq_ediv_of_nonneg h0, ap_get hm0 (by have := hf.1; omega)]
    simp only [Option.bind_some]
    rw [w64_eq (x := i / a.1) (by omega) (by omega), w64_eq (x := ap f (i % a.1) * b.1 ^ j) (by omega) (by omega), w64_eq (x := acc + ap f (i % a.1) * b.1 ^ j) (by omega) (by omega),
      show b.1 ^ j * b.1 = b.1 ^ (j + 1) from (Int.pow_succ ..).symm, w64_eq (x := b.1 ^ (j + 1)) (by omega) (by omega), show w64 ((j : Int) + 1) = ((j + 1 : Nat) : Int) by rw [w64_eq] <;> omega]
    rw [ih, List.map_append, List.map_cons, List.map_nil, idxL_snoc]
    congr 1
    rw [Int.pow_succ, Int.mul_add]
    have e1 : b.1 ^ j * b.1 * idxL b.1 ((argsD a.1 t (i / a.1)).map (ap f)) = b.1 ^ j * (idxL b.1 ((argsD a.1 t (i / a.1)).map (ap f)) * b.1) := by
      rw [Int.mul_assoc, Int.mul_comm b.1]
    rw [e1, Int.mul_comm (ap f (i % a.1))]
    omega

theorem imageIndex_eq {a b : Al} (hn : 1 ≤ a.1) (hm1 : 1 ≤ b.1) (hm8 : b.1 ≤ 8) {f : List Int} (hf : mapB a.1 b.1 f) {i k : Int} (hk0 : 0 ≤ k) (hk : k ≤ 3) (h0 : 0 ≤ i) (h1 : i < 4611686018427387904) (hfull : fullA f (argsD a.1 k.toNat i) = true) :
    impl_imageIndex i k a b f = some (idxL b.1 ((argsD a.1 k.toNat i).map (ap f))) := by
  unfold impl_imageIndex
  have := image_loop hn hm1 hm8 hf k.toNat (by omega) k.toNat 0 (by omega) i 0 h0 h1 (by omega) (by simp) hfull
  rw [show ((k.toNat : Nat) : Int) = k by omega] at this
  simp only [Int.pow_zero, Int.natCast_zero, Int.zero_add, Int.one_mul] at this
  exact congrArg (fun o => Option.bind o some) this

theorem l7Images_eq {f args : List Int} {n : Int} (hl : (f.length : Int) = n) (ha : ∀ x ∈ args, 0 ≤ x ∧ x < n) (hlen : args.length ≤ 1000) : spec_l7Images f args = some (args.map (ap f)) := by
  unfold spec_l7Images
  rw [loop_foldN args (fun acc x => acc ++ [ap f x]) [] (fun b i => (b, i)) id (by omega) (fun k hk b hb => ?_) (fun b hb => ?_)]
  · simp only [id]; rw [foldl_append_one, List.nil_append]; rfl
  · have h2 : (k : Int) < (args.length : Int) := by omega
    have hx := ha _ (List.getElem_mem hk)
    rw [foldl_append_one, List.nil_append] at hb
    simp only [h2, decide_true, if_true, idx_nat hk, Option.bind_some]
    rw [ap_get hx.1 (by omega)]
    simp only [Option.bind_some]
    rw [app_ok (by rw [hb]; simp; omega)]
    rfl
  · simp

theorem has_open {n m : Int} {f args : List Int} (hf : mapB n m f) (ha : ∀ x ∈ args, 0 ≤ x ∧ x < n) : (args.map (ap f)).contains (-1) = !(fullA f args) := by
  unfold fullA
  induction args with
  | nil => rfl
  | cons x xs ih =>
    have h1 := mapB_ap hf (ha x (by simp)).1 (ha x (by simp)).2
    have h2 := ih fun y hy => ha y (by simp [hy])
    rw [List.map_cons, List.contains_cons, h2, List.all_cons]
    by_cases h3 : 0 ≤ ap f x
    · have : ¬ (-1 : Int) = ap f x := by omega
      simp [h3, this]
    · have : (-1 : Int) = ap f x := by omega
      simp [← this]

theorem value_eq {b : Al} {args : List Int} {o : Int} (h1 : 1 ≤ b.1) (h8 : b.1 ≤ 8) (hl : args.length ≤ 3) (hr : ∀ x ∈ args, 0 ≤ x ∧ x < b.1) : spec_l2Value b o args = Option.bind (idx b.2.1 o) fun f => idx f.2.1 (idxL b.1 args) := by
  have h := indexOf_eq h1 h8 hl hr
  unfold impl_indexOf at h
  unfold spec_l2Value
  cases hlp : loopO (σ := (Int × Int)) (ρ := Int) (fun s10 =>
      if decide (s10.2 < (args.length : Int)) = true then
        Option.bind (idx args s10.2) fun x11 =>
        some (Lp.more (w64 ((w64 (s10.1 * b.1)) + x11), w64 (s10.2 + (1 : Int))))
      else
        some (Lp.done s10.1)) ((0 : Int), (0 : Int)) with
  | none => rw [hlp] at h; simp at h
  | some v =>
    rw [hlp] at h
    simp only [Option.bind_some, Option.some.injEq] at h
    subst h
    simp only [Option.bind_some]
    congr 1
    funext f
    cases idx f.2.1 (idxL b.1 args) <;> rfl
end Go.Pure
namespace Go.Pure
open Go.Abs

/-- One place of one table. -/
def stepQ (n m : Int) (p : Op × Op) (s : List Int × Bool) (i : Nat) : Except (List Int) (List Int × Bool) :=
  if fullA s.1 (argsD n p.1.1.toNat (i : Int)) then
    if ap s.1 (p.1.2.1.getD i 0) < 0 then .ok (s.1.set (p.1.2.1.getD i 0).toNat (p.2.2.1.getD (idxL m ((argsD n p.1.1.toNat (i : Int)).map (ap s.1))).toNat 0), true)
    else if ap s.1 (p.1.2.1.getD i 0) = p.2.2.1.getD (idxL m ((argsD n p.1.1.toNat (i : Int)).map (ap s.1))).toNat 0 then .ok s else .error s.1
  else .ok s
def opQ (n m : Int) (s : List Int × Bool) (p : Op × Op) : Except (List Int) (List Int × Bool) := foldE (stepQ n m p) (List.range p.1.2.1.length) s
def passQ (a b : Al) (s : List Int × Bool) : Except (List Int) (List Int × Bool) := foldE (opQ a.1 b.1) (a.2.1.zip b.2.1) s
def closeQ (a b : Al) : Nat → List Int → Except (List Int) (List Int)
  | 0, f => .ok f
  | k + 1, f => match passQ a b (f, false) with
    | .error e => .error e
    | .ok s => if s.2 then closeQ a b k s.1 else .ok s.1

def opens (f : List Int) : Nat := (f.filter fun x => decide (x < 0)).length
theorem opens_set : ∀ (f : List Int) (j : Nat) (v : Int), j < f.length → f.getD j 0 < 0 → 0 ≤ v → opens (f.set j v) + 1 = opens f
  | x :: f, 0, v, _, h, hv => by
    simp only [List.getD_cons_zero] at h
    have hv' : ¬ v < 0 := by omega
    simp [opens, List.filter_cons, h, hv']
  | x :: f, j + 1, v, hj, h, hv => by
    simp only [List.getD_cons_succ] at h
    have ih := opens_set f j v (by simpa using hj) h hv
    unfold opens at ih ⊢
    rw [List.set_cons_succ, List.filter_cons, List.filter_cons]
    split
    · simp only [List.length_cons]; omega
    · exact ih

/-- Two operations that fit. -/
def goodP (n m : Int) (p : Op × Op) : Prop := opB n p.1 = true ∧ opB m p.2 = true ∧ p.1.1 = p.2.1
theorem zip_good {a b : Al} (ha : algB a = true) (hb : algB b = true) (ht : typeL a = typeL b) : ∀ p ∈ a.2.1.zip b.2.1, goodP a.1 b.1 p := by
  intro p hp
  have h1 := (algB_size ha).2.2.2
  have h2 := (algB_size hb).2.2.2
  obtain ⟨k, hk, e⟩ := List.getElem_of_mem hp
  have hk1 : k < a.2.1.length := by simp at hk; omega
  have hk2 : k < b.2.1.length := by simp at hk; omega
  rw [List.getElem_zip] at e
  subst e
  refine ⟨h1 _ (List.getElem_mem hk1), h2 _ (List.getElem_mem hk2), ?_⟩
  have : (typeL a)[k]? = (typeL b)[k]? := by rw [ht]
  simp only [typeL, List.getElem?_map, List.getElem?_eq_getElem hk1, List.getElem?_eq_getElem hk2, Option.map_some, Option.some.injEq] at this
  exact this

theorem good_value {n m : Int} (hn : 1 ≤ n) (hm : 1 ≤ m) {p : Op × Op} (hp : goodP n m p) {f : List Int} (hf : mapB n m f) (i : Nat) (hfull : fullA f (argsD n p.1.1.toNat (i : Int)) = true) :
    ((∀ x ∈ (argsD n p.1.1.toNat (i : Int)).map (ap f), 0 ≤ x ∧ x < m) ∧ 0 ≤ idxL m ((argsD n p.1.1.toNat (i : Int)).map (ap f)) ∧ idxL m ((argsD n p.1.1.toNat (i : Int)).map (ap f)) < p.2.2.1.length) ∧ 0 ≤ p.2.2.1.getD (idxL m ((argsD n p.1.1.toNat (i : Int)).map (ap f))).toNat 0 ∧ p.2.2.1.getD (idxL m ((argsD n p.1.1.toNat (i : Int)).map (ap f))).toNat 0 < m := by
  obtain ⟨h1, h2, h3⟩ := hp
  have hr : ∀ x ∈ (argsD n p.1.1.toNat (i : Int)).map (ap f), 0 ≤ x ∧ x < m := by
    intro x hx
    obtain ⟨y, hy, rfl⟩ := List.mem_map.1 hx
    have hy2 := argsD_range hn _ _ y hy
    unfold fullA at hfull
    rw [List.all_eq_true] at hfull
    exact ⟨of_decide_eq_true (hfull y hy), (mapB_ap hf hy2.1 hy2.2).2⟩
  have h4 := idxL_range hm hr
  rw [List.length_map, argsD_length, h3] at h4
  obtain ⟨_, _, g1, g2⟩ := opB_spec h2
  have h5 : idxL m ((argsD n p.1.1.toNat (i : Int)).map (ap f)) < p.2.2.1.length := by rw [g1, h3]; exact h4.2
  have h6 : 0 ≤ idxL m ((argsD n p.1.1.toNat (i : Int)).map (ap f)) := by rw [h3]; exact h4.1
  refine ⟨⟨hr, h6, h5⟩, ?_⟩
  rw [List.getD_eq_getElem?_getD, List.getElem?_eq_getElem (by omega)]
  exact g2 _ (List.getElem_mem _)
theorem good_res {n m : Int} {p : Op × Op} (hp : goodP n m p) {i : Nat} (hi : i < p.1.2.1.length) : 0 ≤ p.1.2.1.getD i 0 ∧ p.1.2.1.getD i 0 < n ∧ p.1.2.1.getD i 0 = p.1.2.1[i] := by
  have h := (opB_spec hp.1).2.2.2
  have e : p.1.2.1.getD i 0 = p.1.2.1[i] := by rw [List.getD_eq_getElem?_getD, List.getElem?_eq_getElem hi]; rfl
  rw [e]
  have := h _ (List.getElem_mem hi)
  exact ⟨this.1, this.2, rfl⟩

/-- What a step does to a map: nothing, or one more value. -/
theorem step_inv {n m : Int} (hn : 1 ≤ n) (hm : 1 ≤ m) {p : Op × Op} (hp : goodP n m p) {i : Nat} (hi : i < p.1.2.1.length) {s s' : List Int × Bool} (hf : mapB n m s.1) (h : stepQ n m p s i = .ok s') :
    mapB n m s'.1 ∧ (s' = s ∨ (s'.2 = true ∧ opens s'.1 < opens s.1)) := by
  unfold stepQ at h
  by_cases hfull : fullA s.1 (argsD n p.1.1.toNat (i : Int)) = true
  · rw [if_pos hfull] at h
    obtain ⟨_, hv⟩ := good_value hn hm hp hf i hfull
    obtain ⟨x0, x1, _⟩ := good_res hp hi
    by_cases hneg : ap s.1 (p.1.2.1.getD i 0) < 0
    · rw [if_pos hneg, Except.ok.injEq] at h
      subst h
      refine ⟨⟨by simpa using hf.1, fun x hx => ?_⟩, .inr ⟨rfl, ?_⟩⟩
      · rcases List.mem_or_eq_of_mem_set hx with hx | hx
        · exact hf.2 x hx
        · subst hx; exact ⟨by omega, hv.2⟩
      · have := opens_set s.1 (p.1.2.1.getD i 0).toNat _ (by have := hf.1; omega) hneg hv.1
        show opens (s.1.set _ _) < _
        omega
    · rw [if_neg hneg] at h
      split at h
      · rw [Except.ok.injEq] at h; subst h; exact ⟨hf, .inl rfl⟩
      · simp at h
  · rw [if_neg hfull, Except.ok.injEq] at h
    subst h
    exact ⟨hf, .inl rfl⟩

/-- What holds all through a pass that began with `f`. -/
def passI (n m : Int) (f : List Int) (s : List Int × Bool) : Prop := mapB n m s.1 ∧ ((s.2 = false ∧ s.1 = f) ∨ (s.2 = true ∧ opens s.1 < opens f))
theorem step_passI {n m : Int} (hn : 1 ≤ n) (hm : 1 ≤ m) {f : List Int} {p : Op × Op} (hp : goodP n m p) {i : Nat} (hi : i ∈ List.range p.1.2.1.length) (s s' : List Int × Bool) (hs : passI n m f s) (h : stepQ n m p s i = .ok s') : passI n m f s' := by
  obtain ⟨h1, h2⟩ := step_inv hn hm hp (List.mem_range.1 hi) hs.1 h
  refine ⟨h1, ?_⟩
  rcases h2 with rfl | ⟨h2, h3⟩
  · exact hs.2
  · refine .inr ⟨h2, ?_⟩
    rcases hs.2 with ⟨_, h4⟩ | ⟨_, h4⟩
    · rw [← h4]; exact h3
    · omega
theorem op_passI {n m : Int} (hn : 1 ≤ n) (hm : 1 ≤ m) {f : List Int} {p : Op × Op} (hp : goodP n m p) (s s' : List Int × Bool) (hs : passI n m f s) (h : opQ n m s p = .ok s') : passI n m f s' :=
  foldE_inv (passI n m f) _ _ (fun _ hi b b' hb hs => step_passI hn hm hp hi b b' hb hs) hs _ h
theorem pass_passI {a b : Al} (ha : algB a = true) (hb : algB b = true) (ht : typeL a = typeL b) {f : List Int} (hf : mapB a.1 b.1 f) {s' : List Int × Bool} (h : passQ a b (f, false) = .ok s') : passI a.1 b.1 f s' :=
  foldE_inv (passI a.1 b.1 f) _ _ (fun p hp b' b'' hb' hs => op_passI (algB_size ha).1 (algB_size hb).1 (zip_good ha hb ht p hp) b' b'' hb' hs) ⟨hf, .inl ⟨rfl, rfl⟩⟩ _ h

theorem loop_close {a b : Al} (ha : algB a = true) (hb : algB b = true) (ht : typeL a = typeL b) {ρ : Type} {F : List Int × Bool → Option (Lp (List Int × Bool) ρ)} (out : Except (List Int) (List Int) → ρ)
    (hstep : ∀ f, mapB a.1 b.1 f → F (f, true) = some (match passQ a b (f, false) with | .ok s => .more s | .error e => .done (out (.error e))))
    (hstop : ∀ f, mapB a.1 b.1 f → F (f, false) = some (.done (out (.ok f)))) : ∀ (k : Nat) (f : List Int), mapB a.1 b.1 f → opens f < k → loopO F (f, true) = some (out (closeQ a b k f))
  | 0, _, _, h => by omega
  | k + 1, f, hf, hk => by
    rw [loop_unfold, hstep f hf]
    simp only [closeQ]
    cases hp : passQ a b (f, false) with
    | error e => rfl
    | ok s =>
      have hI := pass_passI ha hb ht hf hp
      obtain ⟨g, c⟩ := s
      simp only [Option.bind_some]
      cases c with
      | false =>
        rw [loop_unfold, hstop g hI.1]
        rfl
      | true =>
        simp only [if_true]
        refine loop_close ha hb ht out hstep hstop k g hI.1 ?_
        rcases hI.2 with h | h
        · simp at h
        · exact Nat.lt_of_lt_of_le h.2 (by omega)

def out3 (s : Except (List Int) (List Int × Bool)) : Ex (List Int × Bool) (Lp (List Int × Bool × Int) (Ex (List Int × Bool) (Lp (List Int × Bool) (Ex (List Int) (Bool × List Int))))) :=
  match s with | .ok s => .fall s | .error e => .out (Lp.done (.out (Lp.done (.out (false, e)))))
def out2 (s : Except (List Int) (List Int × Bool)) : Ex (List Int × Bool) (Lp (List Int × Bool) (Ex (List Int) (Bool × List Int))) :=
  match s with | .ok s => .fall s | .error e => .out (Lp.done (.out (false, e)))
def out1 (s : Except (List Int) (List Int)) : Ex (List Int) (Bool × List Int) :=
  match s with | .ok s => .fall s | .error e => .out (false, e)

theorem closeMap_eq {a b : Al} (ha : algB a = true) (hb : algB b = true) (ht : typeL a = typeL b) {f : List Int} (hf : mapB a.1 b.1 f) {k : Nat} (hk : opens f < k) :
    impl_closeMap a b f = some (match closeQ a b k f with | .ok g => (true, g) | .error e => (false, e)) := by
  obtain ⟨a1, a8, a4, af⟩ := algB_size ha
  obtain ⟨b1, b8, b4, bf⟩ := algB_size hb
  have hlen : a.2.1.length = b.2.1.length := by have := congrArg List.length ht; simpa [typeL] using this
  have hz : (a.2.1.zip b.2.1).length = a.2.1.length := by simp [hlen]
  unfold impl_closeMap
  rw [loop_close ha hb ht out1 (fun f hf => ?_) (fun f hf => ?_) k f hf hk]
  · cases closeQ a b k f <;> rfl
  · simp only [if_true]
    rw [loop_foldE (passI a.1 b.1 f) (a.2.1.zip b.2.1) (opQ a.1 b.1) (f, false) (fun s i => (s.1, (s.2, i))) out2 (by omega) ⟨hf, .inl ⟨rfl, rfl⟩⟩ (fun p hp s s' hs h => op_passI a1 b1 (zip_good ha hb ht p hp) s s' hs h) (fun o ho s hs => ?_) (fun s hs => ?_)]
    · unfold passQ
      cases foldE (opQ a.1 b.1) (a.2.1.zip b.2.1) (f, false) <;> rfl
    · have hg := zip_good ha hb ht _ (List.getElem_mem ho)
      have ho1 : o < a.2.1.length := by omega
      have ho2 : o < b.2.1.length := by omega
      have h2 : (o : Int) < (a.2.1.length : Int) := by omega
      rw [List.getElem_zip] at hg ⊢
      simp only [h2, decide_true, if_true, idx_nat ho1, Option.bind_some]
      have hl512 := op_len a1 a8 hg.1
      simp only at hl512
      obtain ⟨k0, k3, kl, kr⟩ := opB_spec hg.1
      simp only at k0 k3 kl kr
      rw [loop_foldE (passI a.1 b.1 f) (List.range (a.2.1[o]).2.1.length) (stepQ a.1 b.1 (a.2.1[o], b.2.1[o])) s (fun s i => (s.1, (s.2, i))) out3 (by simp; omega) hs (fun i hi s s' hs h => step_passI a1 b1 hg hi s s' hs h) (fun i hi s hs => ?_) (fun s hs => ?_)]
      · show Option.bind (some (out3 (opQ a.1 b.1 s (a.2.1[o], b.2.1[o])))) _ = _
        cases opQ a.1 b.1 s (a.2.1[o], b.2.1[o]) <;> rfl
      · have hi1 : i < (a.2.1[o]).2.1.length := by simpa using hi
        have h3 : (i : Int) < ((a.2.1[o]).2.1.length : Int) := by omega
        obtain ⟨x0, x1, xe⟩ := good_res hg hi1
        simp only at x0 x1 xe
        simp only [h3, decide_true, if_true, idx_nat hi1, Option.bind_some, List.getElem_range]
        rw [noneOpen_eq a1 hs.1.1 k0 (by omega) (by omega) (by omega)]
        simp only [Option.bind_some]
        unfold stepQ
        simp only
        cases hfull : fullA s.1 (argsD a.1 (a.2.1[o]).1.toNat (i : Int))
        · simp [Ex.cont]
        · obtain ⟨⟨v1, v2, v3⟩, v4, v5⟩ := good_value a1 b1 hg hs.1 i hfull
          simp only at v1 v2 v3 v4 v5
          simp only [Bool.not_true, Bool.false_eq_true, if_false, idx_nat ho2, Option.bind_some, if_true]
          rw [imageIndex_eq a1 b1 b8 hs.1 k0 k3 (by omega) (by omega) hfull]
          simp only [Option.bind_some]
          rw [idx_int v2 v3]
          simp only [Option.bind_some]
          rw [ap_get (xe ▸ x0) (by have := hs.1.1; rw [← xe]; omega)]
          have e4 : (b.2.1[o]).2.1.getD (idxL b.1 ((argsD a.1 (a.2.1[o]).1.toNat (i : Int)).map (ap s.1))).toNat 0 = (b.2.1[o]).2.1[(idxL b.1 ((argsD a.1 (a.2.1[o]).1.toNat (i : Int)).map (ap s.1))).toNat]'(by omega) := by
            rw [List.getD_eq_getElem?_getD, List.getElem?_eq_getElem (by omega)]; rfl
          rw [xe, e4]
          by_cases hneg : ap s.1 (a.2.1[o]).2.1[i] < 0
          · simp [hneg, Ex.cont]
          · by_cases he : ap s.1 (a.2.1[o]).2.1[i] = (b.2.1[o]).2.1[(idxL b.1 ((argsD a.1 (a.2.1[o]).1.toNat (i : Int)).map (ap s.1))).toNat]'(by omega)
            · have hneg' := hneg
              rw [he] at hneg'
              simp [he, hneg', Ex.cont]
            · simp [hneg, he, Ex.cont, out3]
      · simp [out3]
    · simp [out2, hz]
  · simp [out1]

def sut3 (s : Except (List Int) (List Int × Bool)) : Ex (List Int × Bool) (Lp (List Int × Bool × Int) (Ex (List Int × Bool) (Lp (List Int × Bool) (Ex (List Int) (List Int × Bool))))) :=
  match s with | .ok s => .fall s | .error _ => .out (Lp.done (.out (Lp.done (.out ([], false)))))
def sut2 (s : Except (List Int) (List Int × Bool)) : Ex (List Int × Bool) (Lp (List Int × Bool) (Ex (List Int) (List Int × Bool))) :=
  match s with | .ok s => .fall s | .error _ => .out (Lp.done (.out ([], false)))
def sut1 (s : Except (List Int) (List Int)) : Ex (List Int) (List Int × Bool) :=
  match s with | .ok s => .fall s | .error _ => .out ([], false)

theorem l7Close_eq {a b : Al} (ha : algB a = true) (hb : algB b = true) (ht : typeL a = typeL b) {f : List Int} (hf : mapB a.1 b.1 f) {k : Nat} (hk : opens f < k) :
    spec_l7Close a b f = some (match closeQ a b k f with | .ok g => (g, true) | .error _ => ([], false)) := by
  obtain ⟨a1, a8, a4, af⟩ := algB_size ha
  obtain ⟨b1, b8, b4, bf⟩ := algB_size hb
  have hlen : a.2.1.length = b.2.1.length := by have := congrArg List.length ht; simpa [typeL] using this
  have hz : (a.2.1.zip b.2.1).length = a.2.1.length := by simp [hlen]
  unfold spec_l7Close
  rw [show spec_l1Own f = impl_clone f from rfl, clone_eq (by have := hf.1; omega)]
  simp only [Option.bind_some]
  rw [loop_close ha hb ht sut1 (fun f hf => ?_) (fun f hf => ?_) k f hf hk]
  · cases closeQ a b k f <;> rfl
  · simp only [if_true]
    rw [loop_foldE (passI a.1 b.1 f) (a.2.1.zip b.2.1) (opQ a.1 b.1) (f, false) (fun s i => (s.1, (s.2, i))) sut2 (by omega) ⟨hf, .inl ⟨rfl, rfl⟩⟩ (fun p hp s s' hs h => op_passI a1 b1 (zip_good ha hb ht p hp) s s' hs h) (fun o ho s hs => ?_) (fun s hs => ?_)]
    · unfold passQ
      cases foldE (opQ a.1 b.1) (a.2.1.zip b.2.1) (f, false) <;> rfl
    · have hg := zip_good ha hb ht _ (List.getElem_mem ho)
      have ho1 : o < a.2.1.length := by omega
      have ho2 : o < b.2.1.length := by omega
      have h2 : (o : Int) < (a.2.1.length : Int) := by omega
      rw [List.getElem_zip] at hg ⊢
      simp only [h2, decide_true, if_true]
      have hl512 := op_len a1 a8 hg.1
      simp only at hl512
      obtain ⟨k0, k3, kl, kr⟩ := opB_spec hg.1
      simp only at k0 k3 kl kr
      rw [loop_foldE (passI a.1 b.1 f) (List.range (a.2.1[o]).2.1.length) (stepQ a.1 b.1 (a.2.1[o], b.2.1[o])) s (fun s i => (s.1, (s.2, i))) sut3 (by simp; omega) hs (fun i hi s s' hs h => step_passI a1 b1 hg hi s s' hs h) (fun i hi s hs => ?_) (fun s hs => ?_)]
      · show Option.bind (some (sut3 (opQ a.1 b.1 s (a.2.1[o], b.2.1[o])))) _ = _
        cases opQ a.1 b.1 s (a.2.1[o], b.2.1[o]) <;> rfl
      · have hi1 : i < (a.2.1[o]).2.1.length := by simpa using hi
        have h3 : (i : Int) < ((a.2.1[o]).2.1.length : Int) := by omega
        obtain ⟨x0, x1, xe⟩ := good_res hg hi1
        simp only at x0 x1 xe
        simp only [idx_nat ho1, Option.bind_some, h3, decide_true, if_true, List.getElem_range]
        rw [show spec_l2Args a.1 (a.2.1[o]).1 (i : Int) = impl_argsAt (i : Int) (a.2.1[o]).1 a.1 from rfl, argsAt_eq a1 (by omega) (by omega) k0 (by omega)]
        simp only [Option.bind_some]
        rw [l7Images_eq hs.1.1 (argsD_range a1 _ _) (by rw [argsD_length]; omega)]
        simp only [Option.bind_some]
        rw [l1Has_eq (by rw [List.length_map, argsD_length]; omega), has_open hs.1 (argsD_range a1 _ _)]
        simp only [Option.bind_some]
        unfold stepQ
        simp only
        cases hfull : fullA s.1 (argsD a.1 (a.2.1[o]).1.toNat (i : Int))
        · simp [Ex.cont]
        · obtain ⟨⟨v1, v2, v3⟩, v4, v5⟩ := good_value a1 b1 hg hs.1 i hfull
          simp only at v1 v2 v3 v4 v5
          simp only [Bool.not_true, Bool.false_eq_true, if_false, idx_nat hi1, Option.bind_some, if_true]
          rw [value_eq b1 b8 (by rw [List.length_map, argsD_length]; omega) v1, idx_nat ho2]
          simp only [Option.bind_some]
          rw [idx_int v2 v3]
          simp only [Option.bind_some]
          rw [ap_get (xe ▸ x0) (by have := hs.1.1; rw [← xe]; omega)]
          have e4 : (b.2.1[o]).2.1.getD (idxL b.1 ((argsD a.1 (a.2.1[o]).1.toNat (i : Int)).map (ap s.1))).toNat 0 = (b.2.1[o]).2.1[(idxL b.1 ((argsD a.1 (a.2.1[o]).1.toNat (i : Int)).map (ap s.1))).toNat]'(by omega) := by
            rw [List.getD_eq_getElem?_getD, List.getElem?_eq_getElem (by omega)]; rfl
          rw [xe, e4]
          by_cases hneg : ap s.1 (a.2.1[o]).2.1[i] < 0
          · have hn' : ¬ 0 ≤ ap s.1 (a.2.1[o]).2.1[i] := by omega
            simp [hneg, hn', Ex.cont]
          · have hn' : 0 ≤ ap s.1 (a.2.1[o]).2.1[i] := by omega
            by_cases he : ap s.1 (a.2.1[o]).2.1[i] = (b.2.1[o]).2.1[(idxL b.1 ((argsD a.1 (a.2.1[o]).1.toNat (i : Int)).map (ap s.1))).toNat]'(by omega)
            · have hneg' := hneg
              rw [he] at hneg'
              simp [he, hneg', Ex.cont]
            · simp [hneg, hn', he, Ex.cont, sut3]
      · simp [sut3, idx_nat ho1]
    · simp [sut2, hz]
  · simp [sut1]
end Go.Pure
namespace Go.Pure
open Go.Abs

/-- A whole map. -/
def totB (n m : Int) (h : List Int) : Prop := (h.length : Int) = n ∧ ∀ x ∈ h, 0 ≤ x ∧ x < m
def holdsAt (n m : Int) (h : List Int) (p : Op × Op) (i : Nat) : Prop := ap h (p.1.2.1.getD i 0) = p.2.2.1.getD (idxL m ((argsD n p.1.1.toNat (i : Int)).map (ap h))).toNat 0
def homP (a b : Al) (h : List Int) : Prop := totB a.1 b.1 h ∧ ∀ p ∈ a.2.1.zip b.2.1, ∀ i, i < p.1.2.1.length → holdsAt a.1 b.1 h p i
/-- A begun map agrees with another. -/
def sub (n : Int) (f h : List Int) : Prop := ∀ x, 0 ≤ x → x < n → 0 ≤ ap f x → ap h x = ap f x

theorem tot_ap {n m : Int} {h : List Int} (ht : totB n m h) {x : Int} (h0 : 0 ≤ x) (h1 : x < n) : 0 ≤ ap h x ∧ ap h x < m := by
  have h2 : x.toNat < h.length := by have := ht.1; omega
  unfold ap
  rw [List.getD_eq_getElem?_getD, List.getElem?_eq_getElem h2]
  exact ht.2 _ (List.getElem_mem h2)
theorem tot_map {n m : Int} {h : List Int} (ht : totB n m h) : mapB n m h := ⟨ht.1, fun x hx => by have := ht.2 x hx; omega⟩
theorem sub_refl (n : Int) (f : List Int) : sub n f f := fun _ _ _ _ => rfl
theorem sub_trans {n : Int} {f g h : List Int} (h1 : sub n f g) (h2 : sub n g h) : sub n f h := fun x x0 x1 hx => by
  have := h1 x x0 x1 hx
  rw [← this]
  exact h2 x x0 x1 (by omega)
theorem ap_set {f : List Int} {x y v : Int} (hx0 : 0 ≤ x) (hx1 : x < f.length) (hy0 : 0 ≤ y) : ap (f.set x.toNat v) y = if y = x then v else ap f y := by
  unfold ap
  rw [List.getD_eq_getElem?_getD, List.getElem?_set]
  by_cases e : y = x
  · subst e
    rw [if_pos rfl, if_pos (by omega), if_pos rfl]
    rfl
  · rw [if_neg (by omega), if_neg e, List.getD_eq_getElem?_getD]

theorem sub_args {n m : Int} {f h : List Int} (hn : 1 ≤ n) (hs : sub n f h) {k : Nat} {i : Int} (hfull : fullA f (argsD n k i) = true) : (argsD n k i).map (ap h) = (argsD n k i).map (ap f) := by
  refine List.map_congr_left fun x hx => ?_
  have hr := argsD_range hn k i x hx
  unfold fullA at hfull
  rw [List.all_eq_true] at hfull
  exact hs x hr.1 hr.2 (of_decide_eq_true (hfull x hx))

theorem step_complete {n m : Int} (hn : 1 ≤ n) {p : Op × Op} (hp : goodP n m p) {i : Nat} (hi : i < p.1.2.1.length) {s : List Int × Bool} {h : List Int} (hf : mapB n m s.1) (hs : sub n s.1 h) (hh : holdsAt n m h p i) :
    ∃ s', stepQ n m p s i = .ok s' ∧ sub n s'.1 h := by
  unfold stepQ
  obtain ⟨x0, x1, _⟩ := good_res hp hi
  by_cases hfull : fullA s.1 (argsD n p.1.1.toNat (i : Int)) = true
  · rw [if_pos hfull]
    unfold holdsAt at hh
    rw [sub_args (m := m) hn hs hfull] at hh
    rw [← hh]
    by_cases hneg : ap s.1 (p.1.2.1.getD i 0) < 0
    · rw [if_pos hneg]
      refine ⟨_, rfl, fun y y0 y1 hy => ?_⟩
      have hl := hf.1
      rw [ap_set x0 (by omega) y0] at hy ⊢
      by_cases e : y = p.1.2.1.getD i 0
      · rw [if_pos e, e]
      · rw [if_neg e] at hy ⊢
        exact hs y y0 y1 hy
    · rw [if_neg hneg, if_pos (hs _ x0 x1 (by omega)).symm]
      exact ⟨s, rfl, hs⟩
  · rw [if_neg hfull]
    exact ⟨s, rfl, hs⟩
theorem step_ext {n m : Int} {p : Op × Op} (hp : goodP n m p) {i : Nat} (hi : i < p.1.2.1.length) {s s' : List Int × Bool} (hf : mapB n m s.1) (h : stepQ n m p s i = .ok s') : sub n s.1 s'.1 := by
  unfold stepQ at h
  obtain ⟨x0, x1, _⟩ := good_res hp hi
  split at h
  · split at h
    · next hneg =>
      rw [Except.ok.injEq] at h
      subst h
      intro y y0 y1 hy
      have hl := hf.1
      rw [ap_set x0 (by omega) y0]
      rw [if_neg]
      intro e
      subst e
      omega
    · split at h
      · rw [Except.ok.injEq] at h; subst h; exact sub_refl _ _
      · simp at h
  · rw [Except.ok.injEq] at h; subst h; exact sub_refl _ _
theorem step_keep {n m : Int} {p : Op × Op} {i : Nat} {s s' : List Int × Bool} (h : stepQ n m p s i = .ok s') : s' = s ∨ s'.2 = true := by
  unfold stepQ at h
  split at h
  · split at h
    · rw [Except.ok.injEq] at h; subst h; exact .inr rfl
    · split at h
      · rw [Except.ok.injEq] at h; exact .inl h.symm
      · simp at h
  · rw [Except.ok.injEq] at h; exact .inl h.symm

theorem foldE_ok {α β γ : Type} {g : β → α → Except γ β} (I : β → Prop) : ∀ (xs : List α) (b : β), (∀ x ∈ xs, ∀ b, I b → ∃ b', g b x = .ok b' ∧ I b') → I b → ∃ b', foldE g xs b = .ok b' ∧ I b'
  | [], b, _, hb => ⟨b, rfl, hb⟩
  | x :: xs, b, hg, hb => by
    obtain ⟨c, h1, h2⟩ := hg x (by simp) b hb
    obtain ⟨d, h3, h4⟩ := foldE_ok I xs c (fun y hy => hg y (by simp [hy])) h2
    exact ⟨d, by simp only [foldE, h1]; exact h3, h4⟩
/-- When a fold with a mark ends without the mark, nothing was done. -/
theorem foldE_fix {α β γ : Type} {g : β → α → Except γ β} (bad : β → Prop) : ∀ (xs : List α), (∀ x ∈ xs, ∀ b b', g b x = .ok b' → b' = b ∨ bad b') → (∀ x ∈ xs, ∀ b b', bad b → g b x = .ok b' → bad b') → ∀ b b', foldE g xs b = .ok b' → ¬ bad b' → b' = b ∧ ∀ x ∈ xs, g b x = .ok b
  | [], _, _, b, b', h, _ => by simp only [foldE, Except.ok.injEq] at h; exact ⟨h.symm, by simp⟩
  | x :: xs, h1, h2, b, b', h, hb => by
    simp only [foldE] at h
    cases hx : g b x with
    | error e => rw [hx] at h; simp at h
    | ok c =>
      rw [hx] at h
      simp only at h
      rcases h1 x (by simp) b c hx with rfl | hc
      · obtain ⟨h3, h4⟩ := foldE_fix bad xs (fun y hy => h1 y (by simp [hy])) (fun y hy => h2 y (by simp [hy])) c b' h hb
        refine ⟨h3, fun y hy => ?_⟩
        rcases List.mem_cons.1 hy with rfl | hy
        · exact hx
        · exact h4 y hy
      · exact absurd (foldE_inv bad xs c (fun y hy => h2 y (by simp [hy])) hc b' h) hb

theorem step_bad {n m : Int} {p : Op × Op} {i : Nat} {s s' : List Int × Bool} (hb : s.2 = true) (h : stepQ n m p s i = .ok s') : s'.2 = true := by
  rcases step_keep h with rfl | h
  · exact hb
  · exact h
theorem op_bad {n m : Int} {p : Op × Op} {s s' : List Int × Bool} (hb : s.2 = true) (h : opQ n m s p = .ok s') : s'.2 = true :=
  foldE_inv (fun s : List Int × Bool => s.2 = true) _ _ (fun _ _ _ _ hb hs => step_bad hb hs) hb _ h
theorem op_fix {n m : Int} {p : Op × Op} {s s' : List Int × Bool} (h : opQ n m s p = .ok s') (hb : s'.2 = false) : s' = s ∧ ∀ i, i < p.1.2.1.length → stepQ n m p s i = .ok s := by
  obtain ⟨h1, h2⟩ := foldE_fix (fun s : List Int × Bool => s.2 = true) _ (fun _ _ _ _ hs => step_keep hs) (fun _ _ _ _ hb hs => step_bad hb hs) _ _ h (by simp [hb])
  exact ⟨h1, fun i hi => h2 i (List.mem_range.2 hi)⟩
theorem pass_fix {a b : Al} {s s' : List Int × Bool} (h : passQ a b s = .ok s') (hb : s'.2 = false) : s' = s ∧ ∀ p ∈ a.2.1.zip b.2.1, ∀ i, i < p.1.2.1.length → stepQ a.1 b.1 p s i = .ok s := by
  obtain ⟨h1, h2⟩ := foldE_fix (fun s : List Int × Bool => s.2 = true) _ (fun p _ s s' hs => by
    cases hs' : s'.2
    · exact .inl (op_fix hs hs').1
    · exact .inr rfl) (fun _ _ _ _ hb hs => op_bad hb hs) _ _ h (by simp [hb])
  subst h1
  exact ⟨rfl, fun p hp => (op_fix (h2 p hp) hb).2⟩

theorem pass_complete {a b : Al} (ha : algB a = true) (hb : algB b = true) (ht : typeL a = typeL b) {h : List Int} (hh : homP a b h) {s : List Int × Bool} (hf : mapB a.1 b.1 s.1) (hs : sub a.1 s.1 h) :
    ∃ s', passQ a b s = .ok s' ∧ mapB a.1 b.1 s'.1 ∧ sub a.1 s'.1 h := by
  have a1 := (algB_size ha).1
  have b1 := (algB_size hb).1
  refine foldE_ok (fun s : List Int × Bool => mapB a.1 b.1 s.1 ∧ sub a.1 s.1 h) _ _ (fun p hp s hs => ?_) ⟨hf, hs⟩
  have hg := zip_good ha hb ht p hp
  refine foldE_ok (fun s : List Int × Bool => mapB a.1 b.1 s.1 ∧ sub a.1 s.1 h) _ _ (fun i hi s hs => ?_) hs
  have hi := List.mem_range.1 hi
  obtain ⟨s', h1, h2⟩ := step_complete a1 hg hi hs.1 hs.2 (hh.2 p hp i hi)
  exact ⟨s', h1, (step_inv a1 b1 hg hi hs.1 h1).1, h2⟩
theorem pass_ext {a b : Al} (ha : algB a = true) (hb : algB b = true) (ht : typeL a = typeL b) {s s' : List Int × Bool} (hf : mapB a.1 b.1 s.1) (h : passQ a b s = .ok s') : mapB a.1 b.1 s'.1 ∧ sub a.1 s.1 s'.1 := by
  have a1 := (algB_size ha).1
  have b1 := (algB_size hb).1
  refine foldE_inv (fun t : List Int × Bool => mapB a.1 b.1 t.1 ∧ sub a.1 s.1 t.1) _ _ (fun p hp t t' ht' hs => ?_) ⟨hf, sub_refl _ _⟩ _ h
  have hg := zip_good ha hb ht p hp
  refine foldE_inv (fun t : List Int × Bool => mapB a.1 b.1 t.1 ∧ sub a.1 s.1 t.1) _ _ (fun i hi t t' ht' hs => ?_) ht' _ hs
  have hi := List.mem_range.1 hi
  exact ⟨(step_inv a1 b1 hg hi ht'.1 hs).1, sub_trans ht'.2 (step_ext hg hi ht'.1 hs)⟩

/-- Nothing more follows. -/
def closedP (a b : Al) (f : List Int) : Prop := ∀ p ∈ a.2.1.zip b.2.1, ∀ i, i < p.1.2.1.length → stepQ a.1 b.1 p (f, false) i = .ok (f, false)

theorem close_ok {a b : Al} (ha : algB a = true) (hb : algB b = true) (ht : typeL a = typeL b) : ∀ (k : Nat) (f g : List Int), mapB a.1 b.1 f → opens f < k → closeQ a b k f = .ok g → mapB a.1 b.1 g ∧ sub a.1 f g ∧ closedP a b g
  | 0, _, _, _, h, _ => by omega
  | k + 1, f, g, hf, hk, h => by
    simp only [closeQ] at h
    cases hp : passQ a b (f, false) with
    | error e => rw [hp] at h; simp at h
    | ok s =>
      rw [hp] at h
      simp only at h
      have hI := pass_passI ha hb ht hf hp
      obtain ⟨h1, h2⟩ := pass_ext ha hb ht hf hp
      cases hc : s.2
      · rw [hc] at h
        simp only [Bool.false_eq_true, if_false, Except.ok.injEq] at h
        subst h
        obtain ⟨h3, h4⟩ := pass_fix hp hc
        subst h3
        exact ⟨hf, sub_refl _ _, h4⟩
      · rw [hc] at h
        simp only [if_true] at h
        have hlt : opens s.1 < opens f := by
          rcases hI.2 with ⟨h3, _⟩ | ⟨_, h3⟩
          · rw [h3] at hc; simp at hc
          · exact h3
        obtain ⟨h3, h4, h5⟩ := close_ok ha hb ht k s.1 g h1 (by omega) h
        exact ⟨h3, sub_trans h2 h4, h5⟩
theorem close_complete {a b : Al} (ha : algB a = true) (hb : algB b = true) (ht : typeL a = typeL b) {h : List Int} (hh : homP a b h) : ∀ (k : Nat) (f : List Int), mapB a.1 b.1 f → sub a.1 f h → ∃ g, closeQ a b k f = .ok g ∧ sub a.1 g h
  | 0, f, _, hs => ⟨f, rfl, hs⟩
  | k + 1, f, hf, hs => by
    obtain ⟨s, h1, h2, h3⟩ := pass_complete ha hb ht hh (s := (f, false)) hf hs
    simp only [closeQ, h1]
    cases s.2
    · exact ⟨s.1, rfl, h3⟩
    · exact close_complete ha hb ht hh k s.1 h2 h3

theorem closed_hom {a b : Al} (ha : algB a = true) {f : List Int} (hf : totB a.1 b.1 f) (hc : closedP a b f) : homP a b f := by
  refine ⟨hf, fun p hp i hi => ?_⟩
  have h := hc p hp i hi
  have a1 := (algB_size ha).1
  have hfull : fullA f (argsD a.1 p.1.1.toNat (i : Int)) = true := by
    unfold fullA
    rw [List.all_eq_true]
    intro x hx
    have := argsD_range a1 _ _ x hx
    exact decide_eq_true (tot_ap hf this.1 this.2).1
  unfold stepQ at h
  rw [if_pos hfull] at h
  unfold holdsAt
  simp only at h
  by_cases hneg : ap f (p.1.2.1.getD i 0) < 0
  · rw [if_pos hneg] at h
    simp at h
  · rw [if_neg hneg] at h
    split at h
    · next e => exact e
    · simp at h
end Go.Pure
