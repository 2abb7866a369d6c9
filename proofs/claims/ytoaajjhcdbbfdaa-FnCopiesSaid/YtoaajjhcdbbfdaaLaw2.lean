/- The plain law: what the pure programs compute answers as the statement says. -/
import Derived.Test.YtoaajjhcdbbfdaaLaw1
import Derived.Test.YtoaajjhcdbbfdaaPure
set_option linter.unusedSimpArgs false
set_option linter.unnecessarySimpa false
set_option linter.unusedVariables false
namespace Go.Pure
open Go.Abs

theorem loop_allS {σ ρ : Type} {f : σ → Option (Lp σ (Ex Unit ρ))} (st : Nat → σ) (n : Nat) {z : ρ} (q : Nat → Bool)
    (hm : ∀ k : Nat, k < n → f (st k) = some (if q k then .more (st (k + 1)) else .done (.out z))) (hd : f (st n) = some (.done (.fall ()))) :
    loopO f (st 0) = some (if (List.range n).all q then .fall () else .out z) := by
  have key : ∀ j k, j + k = n → Loops f (st k) (if (List.range' k j).all q then .fall () else .out z) := by
    intro j
    induction j with
    | zero => intro k hk; obtain rfl : k = n := by omega
              exact .done (by simpa using hd)
    | succ j ih =>
      intro k hk
      have h1 := hm k (by omega)
      rw [List.range'_succ, List.all_cons]
      cases hq : q k
      · rw [hq] at h1; exact .done (by simpa using h1)
      · rw [hq] at h1
        simp only [if_true] at h1
        simp only [Bool.true_and]
        exact .more h1 (ih (k + 1) (by omega))
  have := key n 0 (by omega)
  rw [← List.range_eq_range'] at this
  exact loop_iff.2 this

/-- No value twice. -/
def intoB (f : List Int) : Bool := (List.range f.length).all fun k => decide (f.getD k 0 < 0) || !((f.take k).contains (f.getD k 0))
theorem getD_eq {f : List Int} {k : Nat} (h : k < f.length) : f.getD k 0 = f[k] := by rw [List.getD_eq_getElem?_getD, List.getElem?_eq_getElem h]; rfl

theorem l7Into_eq {f : List Int} (h : f.length < 4611686018427387904) : spec_l7Into f = some (intoB f) := by
  unfold spec_l7Into
  rw [loop_all (n := f.length) (z := false) (fun k => decide (f.getD k 0 < 0) || !((f.take k).contains (f.getD k 0))) h (fun k hk => ?_) (by simp)]
  · unfold intoB
    cases (List.range f.length).all fun k => decide (f.getD k 0 < 0) || !((f.take k).contains (f.getD k 0)) <;> rfl
  · have h1 : (k : Int) < (f.length : Int) := by omega
    simp only [h1, decide_true, if_true, idx_nat hk, Option.bind_some, getD_eq hk]
    by_cases h2 : f[k] < 0
    · have h3 : ¬ 0 ≤ f[k] := by omega
      simp [h2, h3]
    · have h3 : 0 ≤ f[k] := by omega
      simp only [h2, h3, decide_true, decide_false, if_true, Bool.false_or]
      rw [show (0 : Int) = ((0 : Nat) : Int) from rfl, cut_nat (by omega) (by omega)]
      simp only [Option.bind_some, List.drop_zero, Nat.sub_zero]
      rw [l1Has_eq (by simp; omega)]
      cases (f.take k).contains f[k] <;> rfl

def seenL (m : Nat) (f : List Int) (k : Nat) : List Bool := (rangeI m).map fun v => (f.take k).contains v
theorem seenL_length (m : Nat) (f : List Int) (k : Nat) : (seenL m f k).length = m := by simp [seenL, rangeI_length]
theorem seenL_zero (m : Nat) (f : List Int) : seenL m f 0 = List.replicate m false := by
  refine List.ext_getElem (by simp [seenL, rangeI_length]) fun i h1 h2 => ?_
  simp [seenL]
theorem seenL_get {m : Nat} {f : List Int} {k : Nat} {v : Int} (h0 : 0 ≤ v) (h1 : v < m) : idx (seenL m f k) v = some ((f.take k).contains v) := by
  rw [idx_int h0 (by rw [seenL_length]; exact h1)]
  simp only [seenL, List.getElem_map, rangeI_get]
  rw [show ((v.toNat : Nat) : Int) = v by omega]
theorem take_snoc {f : List Int} {k : Nat} (h : k < f.length) : f.take (k + 1) = f.take k ++ [f[k]] := by rw [List.take_add_one]; simp [h]
theorem take_contains {f : List Int} {k : Nat} (h : k < f.length) (v : Int) : (f.take (k + 1)).contains v = ((f.take k).contains v || decide (v = f[k])) := by
  rw [take_snoc h, Bool.eq_iff_iff]
  simp only [List.contains_iff_mem, List.mem_append, List.mem_singleton, Bool.or_eq_true, decide_eq_true_eq]
theorem seenL_neg {m : Nat} {f : List Int} {k : Nat} (h : k < f.length) (hn : f[k] < 0) : seenL m f (k + 1) = seenL m f k := by
  unfold seenL
  refine List.map_congr_left fun v hv => ?_
  have hv := mem_rangeI.1 hv
  rw [take_contains h]
  have : ¬ v = f[k] := by omega
  rw [decide_eq_false this, Bool.or_false]
theorem seenL_set {m : Nat} {f : List Int} {k : Nat} (h : k < f.length) (h0 : 0 ≤ f[k]) : (seenL m f k).set (f[k]).toNat true = seenL m f (k + 1) := by
  refine List.ext_getElem (by simp [seenL]) fun i h1 h2 => ?_
  rw [List.getElem_set]
  simp only [seenL, List.getElem_map, rangeI_get, take_contains h]
  by_cases e : (f[k]).toNat = i
  · have : (i : Int) = f[k] := by omega
    rw [if_pos e, decide_eq_true this, Bool.or_true]
  · have : ¬ (i : Int) = f[k] := by omega
    rw [if_neg e, decide_eq_false this, Bool.or_false]

/-- The map with what follows, when it still can be one. -/
def fitsQ (a b : Al) (f : List Int) : Option (List Int) := match closeQ a b (opens f + 1) f with
  | .ok g => if intoB g then some g else none
  | .error _ => none

theorem close_mapB {a b : Al} (ha : algB a = true) (hb : algB b = true) (ht : typeL a = typeL b) {f g : List Int} (hf : mapB a.1 b.1 f) (h : closeQ a b (opens f + 1) f = .ok g) : mapB a.1 b.1 g := (close_ok ha hb ht _ f g hf (by omega) h).1

theorem close_opens {a b : Al} (ha : algB a = true) (hb : algB b = true) (ht : typeL a = typeL b) : ∀ (k : Nat) (f g : List Int), mapB a.1 b.1 f → closeQ a b k f = .ok g → opens g ≤ opens f
  | 0, f, g, _, h => by simp only [closeQ, Except.ok.injEq] at h; subst h; exact Nat.le_refl _
  | k + 1, f, g, hf, h => by
    simp only [closeQ] at h
    cases hp : passQ a b (f, false) with
    | error e => rw [hp] at h; simp at h
    | ok s =>
      rw [hp] at h
      simp only at h
      have hI := pass_passI ha hb ht hf hp
      have hle : opens s.1 ≤ opens f := by
        rcases hI.2 with ⟨_, h3⟩ | ⟨_, h3⟩
        · rw [h3]; exact Nat.le_refl _
        · omega
      cases hc : s.2
      · rw [hc] at h
        simp only [Bool.false_eq_true, if_false, Except.ok.injEq] at h
        rw [← h]; exact hle
      · rw [hc] at h
        simp only [if_true] at h
        exact Nat.le_trans (close_opens ha hb ht k s.1 g hI.1 h) hle

/-- The first place without a value. -/
def openAt (f : List Int) : Nat := f.findIdx fun x => decide (x < 0)
theorem openAt_loop {f : List Int} (h : f.length < 4611686018427387904) : loopO (σ := Int) (ρ := Int) (fun s22 =>
        Option.bind (α := Bool) (
          if decide (s22 < (f.length : Int)) = true then
            Option.bind (idx f s22) fun x26 =>
            some (decide ((0 : Int) ≤ x26))
          else
            some false)
        (fun s24 =>
        if s24 = true then
          some (Lp.more (w64 (s22 + (1 : Int))))
        else
          some (Lp.done s22))) (0 : Int) = some (openAt f : Int) := by
  let r : Nat → Int := fun k => ((k + (f.drop k).findIdx fun x => decide (x < 0) : Nat) : Int)
  have := loop_drop (f := (fun s22 : Int =>
        Option.bind (α := Bool) (
          if decide (s22 < (f.length : Int)) = true then
            Option.bind (idx f s22) fun x26 =>
            some (decide ((0 : Int) ≤ x26))
          else
            some false)
        (fun s24 =>
        if s24 = true then
          some (Lp.more (w64 (s22 + (1 : Int))))
        else
          some (Lp.done s22)))) (n := f.length) r h (fun k hk => ?_) (by simp [r])
  · rw [this]
    simp [r, openAt]
  · have h1 : (k : Int) < (f.length : Int) := by omega
    simp only [h1, decide_true, if_true, idx_nat hk, Option.bind_some]
    have e : f.drop k = f[k] :: f.drop (k + 1) := List.drop_eq_getElem_cons hk
    by_cases he : f[k] < 0
    · have h3 : ¬ 0 ≤ f[k] := by omega
      refine .inl ?_
      have e2 : (f.drop k).findIdx (fun x => decide (x < 0)) = 0 := by
        rw [e, List.findIdx_cons, decide_eq_true he]
        rfl
      simp only [r]
      rw [e2]
      simp [h3]
    · have h3 : 0 ≤ f[k] := by omega
      refine .inr ⟨by simp [h3], ?_⟩
      have e2 : (f.drop k).findIdx (fun x => decide (x < 0)) = (f.drop (k + 1)).findIdx (fun x => decide (x < 0)) + 1 := by
        rw [e, List.findIdx_cons, decide_eq_false he]
        rfl
      simp only [r]
      rw [e2]
      omega
theorem openAt_le (f : List Int) : openAt f ≤ f.length := List.findIdx_le_length
theorem openAt_neg {f : List Int} (h : openAt f < f.length) : f.getD (openAt f) 0 < 0 := by
  rw [getD_eq h]
  have := List.findIdx_getElem (w := h)
  exact of_decide_eq_true this
theorem openAt_full {f : List Int} (h : openAt f = f.length) : ∀ x ∈ f, 0 ≤ x := by
  intro x hx
  have := List.findIdx_eq_length.1 h x hx
  simpa using this
theorem opens_fill {n m : Int} {f : List Int} (hf : mapB n m f) (h : openAt f < f.length) {v : Int} (v0 : 0 ≤ v) (v1 : v < m) : mapB n m (f.set (openAt f) v) ∧ opens (f.set (openAt f) v) + 1 = opens f := by
  refine ⟨⟨by simpa using hf.1, fun x hx => ?_⟩, opens_set f (openAt f) v h (openAt_neg h) v0⟩
  rcases List.mem_or_eq_of_mem_set hx with hx | hx
  · exact hf.2 x hx
  · subst hx; exact ⟨by omega, v1⟩

/-- The search: `visit` takes each whole map and says whether to go on. -/
def valQ {St : Type} (rec : List Int → Int × St → Bool × Int × St) (a b : Al) (f : List Int) (s : Int × St) (v : Int) : Except (Int × St) (Int × St) :=
  if 5000 < s.1 + 1 then .error (s.1 + 1, s.2)
  else match fitsQ a b (f.set (openAt f) v) with
    | none => .ok (s.1 + 1, s.2)
    | some g => if (rec g (s.1 + 1, s.2)).1 then .ok (rec g (s.1 + 1, s.2)).2 else .error (rec g (s.1 + 1, s.2)).2
def walkQ {St : Type} (visit : List Int → St → Bool × St) (a b : Al) : Nat → List Int → Int × St → Bool × Int × St
  | 0, _, s => (false, s)
  | k + 1, f, s =>
    if openAt f = f.length then ((visit f s.2).1, s.1, (visit f s.2).2)
    else match foldE (valQ (walkQ visit a b k) a b f) (rangeI b.1.toNat) s with
      | .ok s => (true, s)
      | .error s => (false, s)
def okI {St : Type} (J : St → Prop) (s : Int × St) : Prop := 0 ≤ s.1 ∧ s.1 ≤ 5000 ∧ J s.2

theorem walkQ_inv {St : Type} {visit : List Int → St → Bool × St} {J : St → Prop} (hJ : ∀ f s, J s → (visit f s).1 = true → J (visit f s).2) {a b : Al} : ∀ (k : Nat) (f : List Int) (s : Int × St), okI J s → (walkQ visit a b k f s).1 = true → okI J (walkQ visit a b k f s).2
  | 0, f, s, _, h => by simp [walkQ] at h
  | k + 1, f, s, hs, h => by
    simp only [walkQ] at h ⊢
    by_cases he : openAt f = f.length
    · rw [if_pos he] at h ⊢
      exact ⟨hs.1, hs.2.1, hJ f s.2 hs.2.2 h⟩
    · rw [if_neg he] at h ⊢
      cases hc : foldE (valQ (walkQ visit a b k) a b f) (rangeI b.1.toNat) s with
      | error e => rw [hc] at h; simp at h
      | ok s' =>
        simp only
        refine foldE_inv (okI J) _ _ (fun v _ t t' ht hv => ?_) hs _ hc
        unfold valQ at hv
        by_cases h5 : 5000 < t.1 + 1
        · rw [if_pos h5] at hv; simp at hv
        · rw [if_neg h5] at hv
          have ht1 : okI J (t.1 + 1, t.2) := ⟨by have := ht.1; simp only; omega, by simp only; omega, ht.2.2⟩
          cases hf : fitsQ a b (f.set (openAt f) v) with
          | none => rw [hf] at hv; simp only [Except.ok.injEq] at hv; subst hv; exact ht1
          | some g =>
            rw [hf] at hv
            simp only at hv
            cases hw : (walkQ visit a b k g (t.1 + 1, t.2)).1
            · rw [hw] at hv; simp at hv
            · rw [hw] at hv
              simp only [if_true, Except.ok.injEq] at hv
              subst hv
              exact walkQ_inv hJ k g _ ht1 hw

def visF (f : List Int) (_ : Option (List Int)) : Bool × Option (List Int) := (false, some f)
theorem visit_firstHom_1_with_anyHom {f : List Int} (h1 : 1 ≤ f.length) (h : f.length ≤ 17179869184) {s : Option (List Int)} (_ : True) : impl_firstHom_1_with_anyHom f s = some (visF f s) := by
  unfold impl_firstHom_1_with_anyHom impl_anyHom
  simp only [Option.bind_some, if_true]
  rw [clone_eq h]
  simp only [Option.bind_some]
  rw [need_eq (by intro e; subst e; simp at h1)]
  rfl
theorem inv_firstHom_1_with_anyHom (f : List Int) (s : Option (List Int)) (_ : True) (_ : (visF f s).1 = true) : True := trivial

theorem fits_firstHom_1_with_anyHom {a b : Al} (ha : algB a = true) (hb : algB b = true) (ht : typeL a = typeL b) {f : List Int} (hf : mapB a.1 b.1 f) (t : Int) (st : Option (List Int)) :
    ∃ e, impl_homSearch_fits_with_firstHom_1_with_anyHom a b true t f st = some (match fitsQ a b f with | some g => (true, g, st) | none => (false, e, st)) := by
  obtain ⟨b1, b8, b4, bf⟩ := algB_size hb
  unfold impl_homSearch_fits_with_firstHom_1_with_anyHom fitsQ
  rw [closeMap_eq ha hb ht hf (k := opens f + 1) (by omega)]
  cases hc : closeQ a b (opens f + 1) f with
  | error e => exact ⟨e, by simp⟩
  | ok g =>
    have hg := close_mapB ha hb ht hf hc
    have hm : b.1 = ((b.1.toNat : Nat) : Int) := by omega
    have hgl := hg.1
    have a8 := (algB_size ha).2.1
    refine ⟨g, ?_⟩
    simp only [Option.bind_some, Bool.not_true, Bool.false_eq_true, if_false]
    rw [mkS_int (by omega) (by omega)]
    simp only [Option.bind_some]
    have hlp := loop_allS (f := (fun s42 : (List Bool) × Int =>
          if decide (s42.2 < (g.length : Int)) = true then
            Option.bind (idx g s42.2) fun x43 =>
            Option.bind (α := Bool) (
              if decide ((0 : Int) ≤ x43) = true then
                Option.bind (idx s42.1 x43) fun x47 =>
                some x47
              else
                some false)
            (fun s45 =>
            if s45 = true then
              some (Lp.done (Ex.out (false, (g, st))))
            else
              Option.bind (α := (List Bool)) (
                if decide ((0 : Int) ≤ x43) = true then
                  Option.bind (idx s42.1 x43) fun x52 =>
                  some (s42.1.set x43.toNat true)
                else
                  some s42.1)
              (fun s50 =>
              some (Lp.more (s50, w64 (s42.2 + (1 : Int))))))
          else
            some (Lp.done (Ex.fall ())))) (fun k => (seenL b.1.toNat g k, (k : Int))) g.length (z := (false, (g, st))) (fun k => decide (g.getD k 0 < 0) || !((g.take k).contains (g.getD k 0))) (fun k hk => ?_) (by simp)
    · rw [seenL_zero] at hlp
      refine (congrArg (fun o => Option.bind o _) hlp).trans ?_
      unfold intoB
      cases (List.range g.length).all fun k => decide (g.getD k 0 < 0) || !((g.take k).contains (g.getD k 0)) <;> rfl
    · have h1 : (k : Int) < (g.length : Int) := by omega
      have hr := hg.2 _ (List.getElem_mem hk)
      simp only [h1, decide_true, if_true, idx_nat hk, Option.bind_some, getD_eq hk]
      rw [w64_eq (by omega) (by omega)]
      by_cases h2 : g[k] < 0
      · have h3 : ¬ 0 ≤ g[k] := by omega
        simp [h2, h3, seenL_neg hk h2]
      · have h3 : 0 ≤ g[k] := by omega
        simp only [h2, h3, decide_true, decide_false, if_true, Bool.false_or, seenL_get h3 (show g[k] < (b.1.toNat : Int) by omega), Option.bind_some, seenL_set hk h3]
        cases (g.take k).contains g[k] <;> simp

theorem extend_firstHom_1_with_anyHom {a b : Al} (ha : algB a = true) (hb : algB b = true) (ht : typeL a = typeL b) : ∀ (k : Nat) (f : List Int) (s : Int × Option (List Int)), mapB a.1 b.1 f → opens f < k → okI (fun _ => True) s →
    impl_homSearch_extend_with_firstHom_1_with_anyHom k a b true s.1 f s.2 = some (walkQ visF a b k f s)
  | 0, _, _, _, h, _ => by omega
  | k + 1, f, s, hf, hk, hs => by
    obtain ⟨b1, b8, b4, bf⟩ := algB_size hb
    obtain ⟨a1, a8, a4, af⟩ := algB_size ha
    have hfl := hf.1
    simp only [impl_homSearch_extend_with_firstHom_1_with_anyHom, walkQ]
    rw [openAt_loop (by omega)]
    simp only [Option.bind_some]
    by_cases he : openAt f = f.length
    · rw [if_pos he]
      have : (((openAt f : Nat) : Int) == (f.length : Int)) = true := by simp [he]
      simp only [this, if_true]
      rw [visit_firstHom_1_with_anyHom (by omega) (by omega) hs.2.2]
      rfl
    · rw [if_neg he]
      have : (((openAt f : Nat) : Int) == (f.length : Int)) = false := by simp; omega
      have hlt : openAt f < f.length := by have := openAt_le f; omega
      simp only [this, Bool.false_eq_true, if_false]
      have hJ := fun f s hJs hv => inv_firstHom_1_with_anyHom f s hJs hv
      rw [loop_foldE (okI (fun _ => True)) (rangeI b.1.toNat) (valQ (walkQ visF a b k) a b f) s (fun s i => (s.1, (i, s.2))) (fun r => match r with | .ok s => Ex.fall s | .error s => Ex.out (false, s)) (by rw [rangeI_length]; omega) hs (fun v hv t t' ht' hvq => ?_) (fun v hv t ht' => ?_) (fun t ht' => ?_)]
      · cases foldE (valQ (walkQ visF a b k) a b f) (rangeI b.1.toNat) s <;> rfl
      · unfold valQ at hvq
        by_cases h5 : 5000 < t.1 + 1
        · rw [if_pos h5] at hvq; simp at hvq
        · rw [if_neg h5] at hvq
          have ht1 : okI (fun _ => True) (t.1 + 1, t.2) := ⟨by have := ht'.1; simp only; omega, by simp only; omega, ht'.2.2⟩
          cases hfq : fitsQ a b (f.set (openAt f) v) with
          | none => rw [hfq] at hvq; simp only [Except.ok.injEq] at hvq; subst hvq; exact ht1
          | some g =>
            rw [hfq] at hvq
            simp only at hvq
            cases hw : (walkQ visF a b k g (t.1 + 1, t.2)).1
            · rw [hw] at hvq; simp at hvq
            · rw [hw] at hvq
              simp only [if_true, Except.ok.injEq] at hvq
              subst hvq
              exact walkQ_inv hJ k g _ ht1 hw
      · rw [rangeI_length] at hv
        have h2 : (v : Int) < b.1 := by omega
        obtain ⟨t0, t5, tJ⟩ := ht'
        simp only [h2, decide_true, if_true, rangeI_get]
        rw [w64_eq (x := t.1 + 1) (by omega) (by omega)]
        unfold valQ
        by_cases h5 : 5000 < t.1 + 1
        · rw [if_pos h5]
          simp [h5]
        · rw [if_neg h5]
          simp only [h5, decide_false, Bool.false_eq_true, if_false]
          rw [clone_eq (by omega)]
          simp only [Option.bind_some]
          rw [idx_nat hlt]
          simp only [Option.bind_some, Int.toNat_natCast]
          obtain ⟨hm2, ho2⟩ := opens_fill hf hlt (v := (v : Int)) (by omega) h2
          obtain ⟨e, he2⟩ := fits_firstHom_1_with_anyHom ha hb ht hm2 (t.1 + 1) t.2
          rw [he2]
          cases hfq : fitsQ a b (f.set (openAt f) (v : Int)) with
          | none => simp
          | some g =>
            have hcl : ∃ h : closeQ a b (opens (f.set (openAt f) (v : Int)) + 1) (f.set (openAt f) (v : Int)) = .ok g, True := by
              unfold fitsQ at hfq
              cases hc : closeQ a b (opens (f.set (openAt f) (v : Int)) + 1) (f.set (openAt f) (v : Int)) with
              | error e => rw [hc] at hfq; simp at hfq
              | ok g' =>
                rw [hc] at hfq
                simp only at hfq
                split at hfq
                · rw [Option.some.injEq] at hfq; subst hfq; exact ⟨rfl, trivial⟩
                · simp at hfq
            obtain ⟨hcl, _⟩ := hcl
            have hgm := close_mapB ha hb ht hm2 hcl
            have hgo := close_opens ha hb ht _ _ _ hm2 hcl
            have ih := extend_firstHom_1_with_anyHom ha hb ht k g (t.1 + 1, t.2) hgm (by omega) ⟨by simp only; omega, by simp only; omega, tJ⟩
            simp only at ih
            simp only [Option.bind_some, if_true]
            rw [ih]
            simp only [Option.bind_some]
            cases hw : (walkQ visF a b k g (t.1 + 1, t.2)).1 <;> simp
      · rw [rangeI_length]
        have h2 : ¬ ((b.1.toNat : Nat) : Int) < b.1 := by omega
        simp only [h2, decide_false, Bool.false_eq_true, if_false]

def visL (f : List Int) (s : List (List Int)) : Bool × List (List Int) := (decide (s.length + 1 ≤ 300), s ++ [f])
theorem visit_listHoms_1 {f : List Int} (_ : 1 ≤ f.length) (h : f.length ≤ 17179869184) {s : List (List Int)} (hs : s.length ≤ 300) : impl_listHoms_1 f s = some (visL f s) := by
  unfold impl_listHoms_1
  rw [clone_eq h]
  simp only [Option.bind_some]
  rw [app_ok (by simp; omega)]
  simp only [Option.bind_some, visL, Option.some.injEq, Prod.mk.injEq, and_true, List.length_append, List.length_singleton]
  by_cases h3 : s.length + 1 ≤ 300
  · simp [h3]; omega
  · simp [h3]; omega
theorem inv_listHoms_1 (f : List Int) (s : List (List Int)) (_ : s.length ≤ 300) (h : (visL f s).1 = true) : (visL f s).2.length ≤ 300 := by
  simp only [visL, decide_eq_true_eq] at h
  simpa [visL] using h

theorem fits_listHoms_1 {a b : Al} (ha : algB a = true) (hb : algB b = true) (ht : typeL a = typeL b) {f : List Int} (hf : mapB a.1 b.1 f) (t : Int) (st : List (List Int)) :
    ∃ e, impl_homSearch_fits_with_listHoms_1 a b true t f st = some (match fitsQ a b f with | some g => (true, g, st) | none => (false, e, st)) := by
  obtain ⟨b1, b8, b4, bf⟩ := algB_size hb
  unfold impl_homSearch_fits_with_listHoms_1 fitsQ
  rw [closeMap_eq ha hb ht hf (k := opens f + 1) (by omega)]
  cases hc : closeQ a b (opens f + 1) f with
  | error e => exact ⟨e, by simp⟩
  | ok g =>
    have hg := close_mapB ha hb ht hf hc
    have hm : b.1 = ((b.1.toNat : Nat) : Int) := by omega
    have hgl := hg.1
    have a8 := (algB_size ha).2.1
    refine ⟨g, ?_⟩
    simp only [Option.bind_some, Bool.not_true, Bool.false_eq_true, if_false]
    rw [mkS_int (by omega) (by omega)]
    simp only [Option.bind_some]
    have hlp := loop_allS (f := (fun s42 : (List Bool) × Int =>
          if decide (s42.2 < (g.length : Int)) = true then
            Option.bind (idx g s42.2) fun x43 =>
            Option.bind (α := Bool) (
              if decide ((0 : Int) ≤ x43) = true then
                Option.bind (idx s42.1 x43) fun x47 =>
                some x47
              else
                some false)
            (fun s45 =>
            if s45 = true then
              some (Lp.done (Ex.out (false, (g, st))))
            else
              Option.bind (α := (List Bool)) (
                if decide ((0 : Int) ≤ x43) = true then
                  Option.bind (idx s42.1 x43) fun x52 =>
                  some (s42.1.set x43.toNat true)
                else
                  some s42.1)
              (fun s50 =>
              some (Lp.more (s50, w64 (s42.2 + (1 : Int))))))
          else
            some (Lp.done (Ex.fall ())))) (fun k => (seenL b.1.toNat g k, (k : Int))) g.length (z := (false, (g, st))) (fun k => decide (g.getD k 0 < 0) || !((g.take k).contains (g.getD k 0))) (fun k hk => ?_) (by simp)
    · rw [seenL_zero] at hlp
      refine (congrArg (fun o => Option.bind o _) hlp).trans ?_
      unfold intoB
      cases (List.range g.length).all fun k => decide (g.getD k 0 < 0) || !((g.take k).contains (g.getD k 0)) <;> rfl
    · have h1 : (k : Int) < (g.length : Int) := by omega
      have hr := hg.2 _ (List.getElem_mem hk)
      simp only [h1, decide_true, if_true, idx_nat hk, Option.bind_some, getD_eq hk]
      rw [w64_eq (by omega) (by omega)]
      by_cases h2 : g[k] < 0
      · have h3 : ¬ 0 ≤ g[k] := by omega
        simp [h2, h3, seenL_neg hk h2]
      · have h3 : 0 ≤ g[k] := by omega
        simp only [h2, h3, decide_true, decide_false, if_true, Bool.false_or, seenL_get h3 (show g[k] < (b.1.toNat : Int) by omega), Option.bind_some, seenL_set hk h3]
        cases (g.take k).contains g[k] <;> simp

theorem extend_listHoms_1 {a b : Al} (ha : algB a = true) (hb : algB b = true) (ht : typeL a = typeL b) : ∀ (k : Nat) (f : List Int) (s : Int × List (List Int)), mapB a.1 b.1 f → opens f < k → okI (fun l => l.length ≤ 300) s →
    impl_homSearch_extend_with_listHoms_1 k a b true s.1 f s.2 = some (walkQ visL a b k f s)
  | 0, _, _, _, h, _ => by omega
  | k + 1, f, s, hf, hk, hs => by
    obtain ⟨b1, b8, b4, bf⟩ := algB_size hb
    obtain ⟨a1, a8, a4, af⟩ := algB_size ha
    have hfl := hf.1
    simp only [impl_homSearch_extend_with_listHoms_1, walkQ]
    rw [openAt_loop (by omega)]
    simp only [Option.bind_some]
    by_cases he : openAt f = f.length
    · rw [if_pos he]
      have : (((openAt f : Nat) : Int) == (f.length : Int)) = true := by simp [he]
      simp only [this, if_true]
      rw [visit_listHoms_1 (by omega) (by omega) hs.2.2]
      rfl
    · rw [if_neg he]
      have : (((openAt f : Nat) : Int) == (f.length : Int)) = false := by simp; omega
      have hlt : openAt f < f.length := by have := openAt_le f; omega
      simp only [this, Bool.false_eq_true, if_false]
      have hJ := fun f s hJs hv => inv_listHoms_1 f s hJs hv
      rw [loop_foldE (okI (fun l => l.length ≤ 300)) (rangeI b.1.toNat) (valQ (walkQ visL a b k) a b f) s (fun s i => (s.1, (i, s.2))) (fun r => match r with | .ok s => Ex.fall s | .error s => Ex.out (false, s)) (by rw [rangeI_length]; omega) hs (fun v hv t t' ht' hvq => ?_) (fun v hv t ht' => ?_) (fun t ht' => ?_)]
      · cases foldE (valQ (walkQ visL a b k) a b f) (rangeI b.1.toNat) s <;> rfl
      · unfold valQ at hvq
        by_cases h5 : 5000 < t.1 + 1
        · rw [if_pos h5] at hvq; simp at hvq
        · rw [if_neg h5] at hvq
          have ht1 : okI (fun l => l.length ≤ 300) (t.1 + 1, t.2) := ⟨by have := ht'.1; simp only; omega, by simp only; omega, ht'.2.2⟩
          cases hfq : fitsQ a b (f.set (openAt f) v) with
          | none => rw [hfq] at hvq; simp only [Except.ok.injEq] at hvq; subst hvq; exact ht1
          | some g =>
            rw [hfq] at hvq
            simp only at hvq
            cases hw : (walkQ visL a b k g (t.1 + 1, t.2)).1
            · rw [hw] at hvq; simp at hvq
            · rw [hw] at hvq
              simp only [if_true, Except.ok.injEq] at hvq
              subst hvq
              exact walkQ_inv hJ k g _ ht1 hw
      · rw [rangeI_length] at hv
        have h2 : (v : Int) < b.1 := by omega
        obtain ⟨t0, t5, tJ⟩ := ht'
        simp only [h2, decide_true, if_true, rangeI_get]
        rw [w64_eq (x := t.1 + 1) (by omega) (by omega)]
        unfold valQ
        by_cases h5 : 5000 < t.1 + 1
        · rw [if_pos h5]
          simp [h5]
        · rw [if_neg h5]
          simp only [h5, decide_false, Bool.false_eq_true, if_false]
          rw [clone_eq (by omega)]
          simp only [Option.bind_some]
          rw [idx_nat hlt]
          simp only [Option.bind_some, Int.toNat_natCast]
          obtain ⟨hm2, ho2⟩ := opens_fill hf hlt (v := (v : Int)) (by omega) h2
          obtain ⟨e, he2⟩ := fits_listHoms_1 ha hb ht hm2 (t.1 + 1) t.2
          rw [he2]
          cases hfq : fitsQ a b (f.set (openAt f) (v : Int)) with
          | none => simp
          | some g =>
            have hcl : ∃ h : closeQ a b (opens (f.set (openAt f) (v : Int)) + 1) (f.set (openAt f) (v : Int)) = .ok g, True := by
              unfold fitsQ at hfq
              cases hc : closeQ a b (opens (f.set (openAt f) (v : Int)) + 1) (f.set (openAt f) (v : Int)) with
              | error e => rw [hc] at hfq; simp at hfq
              | ok g' =>
                rw [hc] at hfq
                simp only at hfq
                split at hfq
                · rw [Option.some.injEq] at hfq; subst hfq; exact ⟨rfl, trivial⟩
                · simp at hfq
            obtain ⟨hcl, _⟩ := hcl
            have hgm := close_mapB ha hb ht hm2 hcl
            have hgo := close_opens ha hb ht _ _ _ hm2 hcl
            have ih := extend_listHoms_1 ha hb ht k g (t.1 + 1, t.2) hgm (by omega) ⟨by simp only; omega, by simp only; omega, tJ⟩
            simp only at ih
            simp only [Option.bind_some, if_true]
            rw [ih]
            simp only [Option.bind_some]
            cases hw : (walkQ visL a b k g (t.1 + 1, t.2)).1 <;> simp
      · rw [rangeI_length]
        have h2 : ¬ ((b.1.toNat : Nat) : Int) < b.1 := by omega
        simp only [h2, decide_false, Bool.false_eq_true, if_false]
end Go.Pure
namespace Go.Pure
open Go.Abs

abbrev SSt := Al × (Al × (Bool × (Bool × (Int × (Int × (List (List Int) × Unit))))))
def mkSS (a b : Al) (s : Int × List (List Int)) : SSt := (a, (b, (true, (false, (301, (s.1, (s.2, ())))))))

def exVal {β : Type} (x : Except β β) : β := match x with | .ok b => b | .error b => b
theorem loop_foldX {α β σ ρ : Type} {f : σ → Option (Lp σ ρ)} (I : β → Prop) (xs : List α) (g : β → α → Except β β) (b0 : β) (mk : β → Int → σ) (R : ρ → β → Prop) (hn : xs.length < 4611686018427387904) (h0 : I b0)
    (hI : ∀ x ∈ xs, ∀ b b', I b → g b x = .ok b' → I b')
    (hok : ∀ (k : Nat) (h : k < xs.length) (b b' : β), I b → g b xs[k] = .ok b' → f (mk b (k : Int)) = some (.more (mk b' (w64 ((k : Int) + 1)))))
    (herr : ∀ (k : Nat) (h : k < xs.length) (b e : β), I b → g b xs[k] = .error e → (∃ z, f (mk b (k : Int)) = some (.done z) ∧ R z e) ∨ (f (mk b (k : Int)) = some (.more (mk e (w64 ((k : Int) + 1)))) ∧ ∃ z, f (mk e (w64 ((k : Int) + 1))) = some (.done z) ∧ R z e))
    (hd : ∀ b, I b → ∃ z, f (mk b (xs.length : Int)) = some (.done z) ∧ R z b) : ∃ z, loopO f (mk b0 0) = some z ∧ R z (exVal (foldE g xs b0)) := by
  have key : ∀ j k b, j + k = xs.length → I b → ∃ z, Loops f (mk b (k : Int)) z ∧ R z (exVal (foldE g (xs.drop k) b)) := by
    intro j
    induction j with
    | zero =>
      intro k b hk hb
      obtain rfl : k = xs.length := by omega
      rw [List.drop_length]
      obtain ⟨z, h1, h2⟩ := hd b hb
      exact ⟨z, .done h1, h2⟩
    | succ j ih =>
      intro k b hk hb
      rw [List.drop_eq_getElem_cons (show k < xs.length by omega)]
      simp only [foldE]
      cases hg : g b (xs[k]'(by omega)) with
      | error e =>
        rcases herr k (by omega) b e hb hg with ⟨z, h1, h2⟩ | ⟨h1, z, h2, h3⟩
        · exact ⟨z, .done h1, h2⟩
        · exact ⟨z, .more h1 (.done h2), h3⟩
      | ok c =>
        have h1 := hok k (by omega) b c hb hg
        rw [w64_eq (by omega) (by omega)] at h1
        obtain ⟨z, h2, h3⟩ := ih (k + 1) c (by omega) (hI _ (List.getElem_mem _) b c hb hg)
        exact ⟨z, .more h1 h2, h3⟩
  obtain ⟨z, h1, h2⟩ := key xs.length 0 b0 (by omega) h0
  rw [List.drop_zero] at h2
  exact ⟨z, loop_iff.2 h1, h2⟩

def J300 (l : List (List Int)) : Prop := l.length ≤ 300
def stopP (s : Int × List (List Int)) : Prop := 301 ≤ s.2.length ∨ 5000 < s.1

theorem valQ_inv {a b : Al} {k : Nat} {f : List Int} {v : Int} {t t' : Int × List (List Int)} (ht' : okI J300 t) (hvq : valQ (walkQ visL a b k) a b f t v = .ok t') : okI J300 t' := by
  unfold valQ at hvq
  by_cases h5 : 5000 < t.1 + 1
  · rw [if_pos h5] at hvq; simp at hvq
  · rw [if_neg h5] at hvq
    have ht1 : okI J300 (t.1 + 1, t.2) := ⟨by have := ht'.1; simp only; omega, by simp only; omega, ht'.2.2⟩
    cases hfq : fitsQ a b (f.set (openAt f) v) with
    | none => rw [hfq] at hvq; simp only [Except.ok.injEq] at hvq; subst hvq; exact ht1
    | some g =>
      rw [hfq] at hvq
      simp only at hvq
      cases hw : (walkQ visL a b k g (t.1 + 1, t.2)).1
      · rw [hw] at hvq; simp at hvq
      · rw [hw] at hvq
        simp only [if_true, Except.ok.injEq] at hvq
        subst hvq
        exact walkQ_inv (J := J300) (fun f s hs hv => inv_listHoms_1 f s hs hv) k g _ ht1 hw

theorem foldE_error {α β γ : Type} {g : β → α → Except γ β} (P : γ → Prop) : ∀ (xs : List α) (b : β), (∀ x ∈ xs, ∀ b e, g b x = .error e → P e) → ∀ e, foldE g xs b = .error e → P e
  | [], b, _, e, h => by simp [foldE] at h
  | x :: xs, b, hg, e, h => by
    simp only [foldE] at h
    cases hx : g b x with
    | error e' => rw [hx] at h; simp only [Except.error.injEq] at h; subst h; exact hg x (by simp) b _ hx
    | ok c => rw [hx] at h; exact foldE_error P xs c (fun y hy => hg y (by simp [hy])) e h

/-- The search stops only when it has too much. -/
theorem walkL_stop {a b : Al} : ∀ (k : Nat) (f : List Int) (s : Int × List (List Int)), opens f < k → (∀ g, fitsQ a b g ≠ none → True) →
    (∀ g v h, openAt g < g.length → fitsQ a b (g.set (openAt g) v) = some h → v ∈ rangeI b.1.toNat → mapB a.1 b.1 g → mapB a.1 b.1 h ∧ opens h < opens g) → mapB a.1 b.1 f →
    (walkQ visL a b k f s).1 = false → stopP (walkQ visL a b k f s).2
  | 0, f, s, hk, _, _, _, _ => by omega
  | k + 1, f, s, hk, h0, hfit, hf, h => by
    simp only [walkQ] at h ⊢
    by_cases he : openAt f = f.length
    · rw [if_pos he] at h ⊢
      left
      simp only [visL, decide_eq_false_iff_not] at h ⊢
      simp only [List.length_append, List.length_singleton]
      omega
    · rw [if_neg he] at h ⊢
      have hlt : openAt f < f.length := by have := openAt_le f; omega
      cases hc : foldE (valQ (walkQ visL a b k) a b f) (rangeI b.1.toNat) s with
      | ok s' => rw [hc] at h; simp at h
      | error e =>
        simp only
        refine foldE_error stopP _ _ (fun v hv t e' hq => ?_) e hc
        unfold valQ at hq
        by_cases h5 : 5000 < t.1 + 1
        · rw [if_pos h5] at hq
          simp only [Except.error.injEq] at hq
          subst hq
          exact .inr h5
        · rw [if_neg h5] at hq
          cases hfq : fitsQ a b (f.set (openAt f) v) with
          | none => rw [hfq] at hq; simp at hq
          | some g =>
            rw [hfq] at hq
            simp only at hq
            obtain ⟨hg1, hg2⟩ := hfit f v g hlt hfq hv hf
            cases hw : (walkQ visL a b k g (t.1 + 1, t.2)).1
            · rw [hw] at hq
              simp only [Bool.false_eq_true, if_false, Except.error.injEq] at hq
              subst hq
              exact walkL_stop k g _ (by omega) h0 hfit hg1 hw
            · rw [hw] at hq
              simp at hq

theorem fitsQ_some {a b : Al} {f g : List Int} (h : fitsQ a b f = some g) : closeQ a b (opens f + 1) f = .ok g ∧ intoB g = true := by
  unfold fitsQ at h
  cases hc : closeQ a b (opens f + 1) f with
  | error e => rw [hc] at h; simp at h
  | ok g' =>
    rw [hc] at h
    simp only at h
    split at h
    · next hi => rw [Option.some.injEq] at h; subst h; exact ⟨rfl, hi⟩
    · simp at h
theorem fits_opens {a b : Al} (ha : algB a = true) (hb : algB b = true) (ht : typeL a = typeL b) {f g : List Int} {v : Int} (hlt : openAt f < f.length) (h : fitsQ a b (f.set (openAt f) v) = some g) (hv : v ∈ rangeI b.1.toNat) (hf : mapB a.1 b.1 f) : mapB a.1 b.1 g ∧ opens g < opens f := by
  have hv := mem_rangeI.1 hv
  have b1 := (algB_size hb).1
  obtain ⟨h1, _⟩ := fitsQ_some h
  obtain ⟨h2, h3⟩ := opens_fill hf hlt hv.1 (show v < b.1 by omega)
  have h4 := close_opens ha hb ht _ _ _ h2 h1
  exact ⟨close_mapB ha hb ht h2 h1, by omega⟩

theorem fits_spec {a b : Al} (ha : algB a = true) (hb : algB b = true) (ht : typeL a = typeL b) {f : List Int} (hf : mapB a.1 b.1 f) : ∃ x, spec_l7Close a b f = some x ∧
    (Option.bind (α := Bool) (if x.2 = true then (if (!true) = true then some true else Option.bind (spec_l7Into x.1) fun x104 => some x104) else some false) fun s102 => some s102) = some (fitsQ a b f).isSome ∧ (∀ g, fitsQ a b f = some g → x.1 = g) := by
  rw [l7Close_eq ha hb ht hf (k := opens f + 1) (by omega)]
  unfold fitsQ
  cases hc : closeQ a b (opens f + 1) f with
  | error e => exact ⟨_, rfl, by simp, by simp⟩
  | ok g =>
    have hg := close_mapB ha hb ht hf hc
    have a8 := (algB_size ha).2.1
    have hgl := hg.1
    refine ⟨_, rfl, ?_, ?_⟩
    · simp only [if_true, Bool.not_true, Bool.false_eq_true, if_false]
      rw [l7Into_eq (by omega)]
      cases intoB g <;> simp
    · intro g' hg'
      simp only at hg'
      split at hg'
      · rw [Option.some.injEq] at hg'; exact hg'
      · simp at hg'

theorem walk_eq {a b : Al} (ha : algB a = true) (hb : algB b = true) (ht : typeL a = typeL b) : ∀ (k : Nat) (f : List Int) (s : Int × List (List Int)), mapB a.1 b.1 f → opens f < k → okI J300 s →
    spec_l7Search_walk k (mkSS a b s) f = some (mkSS a b (walkQ visL a b k f s).2)
  | 0, _, _, _, h, _ => by omega
  | k + 1, f, s, hf, hk, hs => by
    obtain ⟨b1, b8, b4, bf⟩ := algB_size hb
    obtain ⟨a1, a8, a4, af⟩ := algB_size ha
    have hfl := hf.1
    simp only [spec_l7Search_walk, walkQ]
    rw [openAt_loop (by omega)]
    simp only [Option.bind_some]
    by_cases he : openAt f = f.length
    · rw [if_pos he]
      have : (((openAt f : Nat) : Int) == (f.length : Int)) = true := by simp [he]
      have hJ : s.2.length ≤ 300 := hs.2.2
      simp only [this, if_true, mkSS, Bool.not_false, Option.bind_some]
      rw [app_ok (by simp; omega)]
      rfl
    · rw [if_neg he]
      have : (((openAt f : Nat) : Int) == (f.length : Int)) = false := by simp; omega
      have hlt : openAt f < f.length := by have := openAt_le f; omega
      simp only [this, Bool.false_eq_true, if_false]
      have hstop : ∀ (e : Int × List (List Int)) (i : Int), stopP e → (
            if decide (i < b.1) = true then
              if decide ((e.2.length : Int) < 301) = true then
                some (decide (e.1 ≤ (5000 : Int)))
              else
                some false
            else
              some false) = some false := by
        intro e i h
        by_cases h1 : i < b.1
        · by_cases h2 : (e.2.length : Int) < 301
          · have h3 : ¬ e.1 ≤ 5000 := by rcases h with h | h <;> omega
            simp [h1, h2, h3]
          · simp [h1, h2]
        · simp [h1]
      obtain ⟨F, hF⟩ : ∃ F : SSt × Int → Option (Lp (SSt × Int) (Ex SSt SSt)), F = fun s94 : SSt × Int =>
          Option.bind (α := Bool) (
            if decide (s94.2 < s94.1.2.1.1) = true then
              if decide ((s94.1.2.2.2.2.2.2.1.length : Int) < s94.1.2.2.2.2.1) = true then
                some (decide (s94.1.2.2.2.2.2.1 ≤ (5000 : Int)))
              else
                some false
            else
              some false)
          (fun s95 =>
          if s95 = true then
            if decide ((5000 : Int) < (w64 (s94.1.2.2.2.2.2.1 + (1 : Int)))) = true then
              some (Lp.done (Ex.out (s94.1.1, (s94.1.2.1, (s94.1.2.2.1, (s94.1.2.2.2.1, (s94.1.2.2.2.2.1, (w64 (s94.1.2.2.2.2.2.1 + (1 : Int)), s94.1.2.2.2.2.2.2))))))))
            else
              Option.bind (spec_l1Own f) fun x98 =>
              Option.bind (idx x98 (openAt f : Int)) fun x99 =>
              Option.bind (spec_l7Close s94.1.1 s94.1.2.1 (x98.set (openAt f : Int).toNat s94.2)) fun x100 =>
              Option.bind (α := Bool) (
                if x100.2 = true then
                  if (!s94.1.2.2.1) = true then
                    some true
                  else
                    Option.bind (spec_l7Into x100.1) fun x104 =>
                    some x104
                else
                  some false)
              (fun s102 =>
              Option.bind (α := SSt) (
                if s102 = true then
                  Option.bind (spec_l7Search_walk k (s94.1.1, (s94.1.2.1, (s94.1.2.2.1, (s94.1.2.2.2.1, (s94.1.2.2.2.2.1, (w64 (s94.1.2.2.2.2.2.1 + (1 : Int)), s94.1.2.2.2.2.2.2)))))) x100.1) fun x109 =>
                  some x109
                else
                  some (s94.1.1, (s94.1.2.1, (s94.1.2.2.1, (s94.1.2.2.2.1, (s94.1.2.2.2.2.1, (w64 (s94.1.2.2.2.2.2.1 + (1 : Int)), s94.1.2.2.2.2.2.2)))))))
              (fun s107 =>
              some (Lp.more (s107, w64 (s94.2 + (1 : Int))))))
          else
            some (Lp.done (Ex.fall s94.1))) := ⟨_, rfl⟩
      have hA : ∀ (v : Nat) (t : Int × List (List Int)), v < b.1.toNat → okI J300 t → 5000 < t.1 + 1 → F (mkSS a b t, (v : Int)) = some (Lp.done (Ex.out (mkSS a b (t.1 + 1, t.2)))) := by
        intro v t hv ht' h5
        have h2 : (v : Int) < b.1 := by omega
        obtain ⟨t0, t5, tJ⟩ := ht'
        have tl : (t.2.length : Int) < 301 := by unfold J300 at tJ; omega
        have hw : w64 (t.1 + 1) = t.1 + 1 := w64_eq (by omega) (by omega)
        rw [hF]
        simp only [mkSS, h2, decide_true, if_true, tl, t5, Option.bind_some, hw, h5]
      have hB : ∀ (v : Nat) (t : Int × List (List Int)), v < b.1.toNat → okI J300 t → ¬ 5000 < t.1 + 1 → F (mkSS a b t, (v : Int)) = some (Lp.more ((match fitsQ a b (f.set (openAt f) (v : Int)) with | none => mkSS a b (t.1 + 1, t.2) | some g => mkSS a b (walkQ visL a b k g (t.1 + 1, t.2)).2), w64 ((v : Int) + 1))) := by
        intro v t hv ht' h5
        have h2 : (v : Int) < b.1 := by omega
        obtain ⟨t0, t5, tJ⟩ := ht'
        have tl : (t.2.length : Int) < 301 := by unfold J300 at tJ; omega
        have hw : w64 (t.1 + 1) = t.1 + 1 := w64_eq (by omega) (by omega)
        rw [hF]
        simp only [mkSS, h2, decide_true, if_true, tl, t5, Option.bind_some, hw, h5, decide_false, Bool.false_eq_true, if_false]
        rw [show spec_l1Own f = impl_clone f from rfl, clone_eq (by omega)]
        simp only [Option.bind_some]
        rw [idx_nat hlt]
        simp only [Option.bind_some, Int.toNat_natCast]
        obtain ⟨hm2, ho2⟩ := opens_fill hf hlt (v := (v : Int)) (by omega) h2
        obtain ⟨x, x1, x2, x3⟩ := fits_spec ha hb ht hm2
        rw [x1]
        simp only [Option.bind_some]
        have x2' : (if x.2 = true then (if (!true) = true then some true else Option.bind (spec_l7Into x.1) fun x104 => some x104) else some false) = some (fitsQ a b (f.set (openAt f) (v : Int))).isSome := by
          rw [← x2]
          cases (if x.2 = true then (if (!true) = true then some true else Option.bind (spec_l7Into x.1) fun x104 => some x104) else some false) <;> rfl
        refine (congrArg (fun o => Option.bind o _) x2').trans ?_
        simp only [Option.bind_some]
        cases hfq : fitsQ a b (f.set (openAt f) (v : Int)) with
        | none => simp
        | some g =>
          have hxg := x3 g hfq
          obtain ⟨hgm, hgo⟩ := fits_opens ha hb ht hlt hfq (mem_rangeI.2 ⟨by omega, by omega⟩) hf
          have ht1 : okI J300 (t.1 + 1, t.2) := ⟨by simp only; omega, by simp only; omega, tJ⟩
          have ih := walk_eq ha hb ht k g (t.1 + 1, t.2) hgm (by omega) ht1
          simp only [mkSS] at ih
          simp only [Option.isSome_some, if_true, hxg]
          rw [ih]
          rfl
      have hlp := loop_foldX (okI J300) (rangeI b.1.toNat) (valQ (walkQ visL a b k) a b f) s (fun s i => (mkSS a b s, i)) (fun (r : Ex SSt SSt) e => r = .fall (mkSS a b e) ∨ r = .out (mkSS a b e)) (by rw [rangeI_length]; omega) hs (fun v _ t t' ht' hvq => valQ_inv ht' hvq) (f := F)
        (fun v hv t t' ht' hvq => ?_) (fun v hv t e ht' hvq => ?_) (fun t ht' => ?_)
      · obtain ⟨z, h1, h2⟩ := hlp
        rw [hF] at h1
        refine (congrArg (fun o => Option.bind o _) h1).trans ?_
        cases hfe : foldE (valQ (walkQ visL a b k) a b f) (rangeI b.1.toNat) s <;> rw [hfe] at h2 <;> rcases h2 with rfl | rfl <;> rfl
      · rw [rangeI_length] at hv
        rw [rangeI_get] at hvq
        unfold valQ at hvq
        by_cases h5 : 5000 < t.1 + 1
        · rw [if_pos h5] at hvq; simp at hvq
        · rw [if_neg h5] at hvq
          rw [hB v t hv ht' h5]
          cases hfq : fitsQ a b (f.set (openAt f) (v : Int)) with
          | none =>
            rw [hfq] at hvq
            simp only [Except.ok.injEq] at hvq
            subst hvq
            rfl
          | some g =>
            rw [hfq] at hvq
            simp only at hvq
            cases hw : (walkQ visL a b k g (t.1 + 1, t.2)).1
            · rw [hw] at hvq; simp at hvq
            · rw [hw] at hvq
              simp only [if_true, Except.ok.injEq] at hvq
              subst hvq
              rfl
      · rw [rangeI_length] at hv
        rw [rangeI_get] at hvq
        unfold valQ at hvq
        by_cases h5 : 5000 < t.1 + 1
        · rw [if_pos h5] at hvq
          simp only [Except.error.injEq] at hvq
          subst hvq
          exact .inl ⟨_, hA v t hv ht' h5, .inr rfl⟩
        · rw [if_neg h5] at hvq
          right
          rw [hB v t hv ht' h5]
          cases hfq : fitsQ a b (f.set (openAt f) (v : Int)) with
          | none => rw [hfq] at hvq; simp at hvq
          | some g =>
            rw [hfq] at hvq
            simp only at hvq
            obtain ⟨hgm, hgo⟩ := fits_opens ha hb ht hlt hfq (mem_rangeI.2 ⟨by omega, by omega⟩) hf
            cases hw : (walkQ visL a b k g (t.1 + 1, t.2)).1
            · rw [hw] at hvq
              simp only [Bool.false_eq_true, if_false, Except.error.injEq] at hvq
              have hst := walkL_stop k g (t.1 + 1, t.2) (by omega) (fun _ _ => trivial) (fun g v h h1 h2 h3 h4 => fits_opens ha hb ht h1 h2 h3 h4) hgm hw
              rw [hvq] at hst
              refine ⟨by simp only [hvq], _, ?_, .inl rfl⟩
              have h7 := hstop e (w64 ((v : Int) + 1)) hst
              rw [hF]
              simp only [mkSS]
              exact congrArg (fun o => Option.bind o _) h7
            · rw [hw] at hvq
              simp at hvq
      · rw [rangeI_length]
        have h2 : ¬ ((b.1.toNat : Nat) : Int) < b.1 := by omega
        refine ⟨_, ?_, .inl rfl⟩
        rw [hF]
        simp only [mkSS, h2, decide_false, Bool.false_eq_true, if_false, Option.bind_some]
end Go.Pure
namespace Go.Pure
open Go.Abs

def leafQ (a b : Al) : Nat → List Int → List (List Int)
  | 0, _ => []
  | k + 1, f => if openAt f = f.length then [f] else (rangeI b.1.toNat).flatMap fun v => match fitsQ a b (f.set (openAt f) v) with
    | none => []
    | some g => leafQ a b k g

theorem into_iff {f : List Int} : intoB f = true ↔ ∀ i j, i < j → j < f.length → 0 ≤ f.getD j 0 → f.getD i 0 ≠ f.getD j 0 := by
  unfold intoB
  simp only [List.all_eq_true, List.mem_range, Bool.or_eq_true, decide_eq_true_eq, Bool.not_eq_true', List.contains_eq_mem, decide_eq_false_iff_not]
  constructor
  · intro h i j hij hj h0 e
    rcases h j hj with h1 | h1
    · omega
    · apply h1
      rw [← e, getD_eq (show i < f.length by omega)]
      exact List.mem_iff_getElem.2 ⟨i, by simp; omega, by simp⟩
  · intro h k hk
    by_cases h0 : f.getD k 0 < 0
    · exact .inl h0
    · refine .inr fun hm => ?_
      obtain ⟨i, hi, e⟩ := List.mem_iff_getElem.1 hm
      have hik : i < k := by simp at hi; omega
      rw [List.getElem_take] at e
      exact h i k hik hk (by omega) (by rw [getD_eq (show i < f.length by omega)]; exact e)

theorem ap_nat (f : List Int) (k : Nat) : ap f (k : Int) = f.getD k 0 := by unfold ap; rw [Int.toNat_natCast]
theorem into_sub {n m : Int} {f h : List Int} (hf : mapB n m f) (hh : (h.length : Int) = n) (hs : sub n f h) (hi : intoB h = true) : intoB f = true := by
  rw [into_iff] at hi ⊢
  intro i j hij hj h0 e
  have h1 := hf.1
  rw [← ap_nat] at h0
  have e1 := hs (j : Int) (by omega) (by omega) h0
  rw [ap_nat, ap_nat] at e1
  rw [ap_nat] at h0
  have e2 := hs (i : Int) (by omega) (by omega) (by rw [ap_nat, e]; exact h0)
  rw [ap_nat, ap_nat] at e2
  exact hi i j hij (by omega) (by omega) (by rw [e1, e2, e])

theorem sub_set {n m : Int} {f : List Int} (hf : mapB n m f) (hlt : openAt f < f.length) (v : Int) : sub n f (f.set (openAt f) v) := by
  intro x x0 x1 hx
  have h1 := hf.1
  have := openAt_neg hlt
  have e := ap_set (f := f) (x := (openAt f : Int)) (y := x) (v := v) (by omega) (by omega) x0
  rw [Int.toNat_natCast] at e
  rw [e, if_neg]
  intro e2
  rw [e2, ap_nat] at hx
  omega
theorem ap_set_self {n m : Int} {f : List Int} (_ : mapB n m f) (hlt : openAt f < f.length) (v : Int) : ap (f.set (openAt f) v) (openAt f : Int) = v := by
  have e := ap_set (f := f) (x := (openAt f : Int)) (y := (openAt f : Int)) (v := v) (by omega) (by omega) (by omega)
  rw [Int.toNat_natCast, if_pos rfl] at e
  exact e
theorem set_sub {n m : Int} {f h : List Int} (hf : mapB n m f) (hlt : openAt f < f.length) (hs : sub n f h) : sub n (f.set (openAt f) (ap h (openAt f : Int))) h := by
  intro x x0 x1 hx
  have e := ap_set (f := f) (x := (openAt f : Int)) (y := x) (v := ap h (openAt f : Int)) (by omega) (by omega) x0
  rw [Int.toNat_natCast] at e
  rw [e] at hx ⊢
  by_cases h2 : x = (openAt f : Int)
  · rw [if_pos h2, h2]
  · rw [if_neg h2] at hx ⊢
    exact hs x x0 x1 hx

theorem fits_complete {a b : Al} (ha : algB a = true) (hb : algB b = true) (ht : typeL a = typeL b) {f h : List Int} (hf : mapB a.1 b.1 f) (hh : homP a b h) (hi : intoB h = true) (hs : sub a.1 f h) : ∃ g, fitsQ a b f = some g ∧ sub a.1 g h := by
  obtain ⟨g, h1, h2⟩ := close_complete ha hb ht hh (opens f + 1) f hf hs
  have hg := close_mapB ha hb ht hf h1
  refine ⟨g, ?_, h2⟩
  unfold fitsQ
  rw [h1]
  simp only
  rw [if_pos (into_sub hg hh.1.1 h2 hi)]
theorem fits_sound {a b : Al} (ha : algB a = true) (hb : algB b = true) (ht : typeL a = typeL b) {f g : List Int} (hf : mapB a.1 b.1 f) (h : fitsQ a b f = some g) : mapB a.1 b.1 g ∧ sub a.1 f g ∧ closedP a b g ∧ intoB g = true ∧ opens g ≤ opens f := by
  obtain ⟨h1, h2⟩ := fitsQ_some h
  obtain ⟨h3, h4, h5⟩ := close_ok ha hb ht _ f g hf (by omega) h1
  exact ⟨h3, h4, h5, h2, close_opens ha hb ht _ _ _ hf h1⟩

theorem leaf_mem {a b : Al} (ha : algB a = true) (hb : algB b = true) (ht : typeL a = typeL b) : ∀ (k : Nat) (f : List Int), mapB a.1 b.1 f → opens f < k → closedP a b f → intoB f = true →
    (∀ h, h ∈ leafQ a b k f ↔ homP a b h ∧ intoB h = true ∧ sub a.1 f h) ∧ (leafQ a b k f).Nodup
  | 0, _, _, h, _, _ => by omega
  | k + 1, f, hf, hk, hc, hi => by
    have hfl := hf.1
    have a1 := (algB_size ha).1
    have b1 := (algB_size hb).1
    simp only [leafQ]
    by_cases he : openAt f = f.length
    · rw [if_pos he]
      have hfull := openAt_full he
      have htot : totB a.1 b.1 f := ⟨hf.1, fun x hx => ⟨hfull x hx, (hf.2 x hx).2⟩⟩
      refine ⟨fun h => ?_, by simp⟩
      rw [List.mem_singleton]
      constructor
      · rintro rfl
        exact ⟨closed_hom ha htot hc, hi, sub_refl _ _⟩
      · rintro ⟨h1, h2, h3⟩
        exact names_ext h1.1.1 hf.1 fun x x0 x1 => h3 x x0 x1 (tot_ap htot x0 x1).1
    · rw [if_neg he]
      have hlt : openAt f < f.length := by have := openAt_le f; omega
      have hv : ∀ v ∈ rangeI b.1.toNat, ∀ g, fitsQ a b (f.set (openAt f) v) = some g → mapB a.1 b.1 g ∧ sub a.1 (f.set (openAt f) v) g ∧ closedP a b g ∧ intoB g = true ∧ opens g < k := by
        intro v hv g hg
        have hv := mem_rangeI.1 hv
        obtain ⟨h2, h3⟩ := opens_fill hf hlt hv.1 (show v < b.1 by omega)
        obtain ⟨g1, g2, g3, g4, g5⟩ := fits_sound ha hb ht h2 hg
        exact ⟨g1, g2, g3, g4, by omega⟩
      constructor
      · intro h
        rw [List.mem_flatMap]
        constructor
        · rintro ⟨v, hvr, hm⟩
          cases hg : fitsQ a b (f.set (openAt f) v) with
          | none => rw [hg] at hm; simp at hm
          | some g =>
            rw [hg] at hm
            simp only at hm
            obtain ⟨g1, g2, g3, g4, g5⟩ := hv v hvr g hg
            obtain ⟨h1, h2, h3⟩ := ((leaf_mem ha hb ht k g g1 g5 g3 g4).1 h).1 hm
            exact ⟨h1, h2, sub_trans (sub_set hf hlt v) (sub_trans g2 h3)⟩
        · rintro ⟨h1, h2, h3⟩
          have hr := tot_ap h1.1 (x := (openAt f : Int)) (by omega) (by omega)
          have hvr : ap h (openAt f : Int) ∈ rangeI b.1.toNat := mem_rangeI.2 ⟨hr.1, by omega⟩
          obtain ⟨m1, m2⟩ := opens_fill hf hlt hr.1 hr.2
          obtain ⟨g, hg, hgs⟩ := fits_complete ha hb ht m1 h1 h2 (set_sub hf hlt h3)
          refine ⟨_, hvr, ?_⟩
          rw [hg]
          simp only
          obtain ⟨g1, g2, g3, g4, g5⟩ := hv _ hvr g hg
          exact ((leaf_mem ha hb ht k g g1 g5 g3 g4).1 h).2 ⟨h1, h2, hgs⟩
      · refine nodup_flatMap (rangeI_nodup _) (fun v hvr => ?_) (fun v hvr w hwr h h1 h2 => ?_)
        · cases hg : fitsQ a b (f.set (openAt f) v) with
          | none => simp
          | some g =>
            obtain ⟨g1, g2, g3, g4, g5⟩ := hv v hvr g hg
            exact (leaf_mem ha hb ht k g g1 g5 g3 g4).2
        · have key : ∀ v ∈ rangeI b.1.toNat, h ∈ (match fitsQ a b (f.set (openAt f) v) with | none => [] | some g => leafQ a b k g) → ap h (openAt f : Int) = v := by
            intro v hvr hm
            cases hg : fitsQ a b (f.set (openAt f) v) with
            | none => rw [hg] at hm; simp at hm
            | some g =>
              rw [hg] at hm
              simp only at hm
              obtain ⟨g1, g2, g3, g4, g5⟩ := hv v hvr g hg
              obtain ⟨_, _, h3⟩ := ((leaf_mem ha hb ht k g g1 g5 g3 g4).1 h).1 hm
              have hv0 := mem_rangeI.1 hvr
              have := sub_trans g2 h3 (openAt f : Int) (by omega) (by omega) (by rw [ap_set_self hf hlt]; exact hv0.1)
              rw [ap_set_self hf hlt] at this
              exact this
          rw [← key v hvr h1, ← key w hwr h2]

/-- A search that went to its end has found all. -/
theorem foldE_push {α : Type} {g : Int × List (List Int) → α → Except (Int × List (List Int)) (Int × List (List Int))} (F : α → List (List Int)) : ∀ (xs : List α) (s s' : Int × List (List Int)), (∀ x ∈ xs, ∀ t t', g t x = .ok t' → t'.2 = t.2 ++ F x) → foldE g xs s = .ok s' → s'.2 = s.2 ++ xs.flatMap F
  | [], s, s', _, h => by simp only [foldE, Except.ok.injEq] at h; subst h; simp
  | x :: xs, s, s', hg, h => by
    simp only [foldE] at h
    cases hx : g s x with
    | error e => rw [hx] at h; simp at h
    | ok c =>
      rw [hx] at h
      simp only at h
      rw [foldE_push F xs c s' (fun y hy => hg y (by simp [hy])) h, hg x (by simp) s c hx]
      simp
theorem walkL_all {a b : Al} : ∀ (k : Nat) (f : List Int) (s : Int × List (List Int)), (walkQ visL a b k f s).1 = true → (walkQ visL a b k f s).2.2 = s.2 ++ leafQ a b k f
  | 0, f, s, h => by simp [walkQ] at h
  | k + 1, f, s, h => by
    simp only [walkQ, leafQ] at h ⊢
    by_cases he : openAt f = f.length
    · rw [if_pos he, if_pos he]
      rfl
    · rw [if_neg he] at h ⊢
      rw [if_neg he]
      cases hc : foldE (valQ (walkQ visL a b k) a b f) (rangeI b.1.toNat) s with
      | error e => rw [hc] at h; simp at h
      | ok s' =>
        simp only
        refine foldE_push _ _ s s' (fun v _ t t' hq => ?_) hc
        unfold valQ at hq
        by_cases h5 : 5000 < t.1 + 1
        · rw [if_pos h5] at hq; simp at hq
        · rw [if_neg h5] at hq
          cases hfq : fitsQ a b (f.set (openAt f) v) with
          | none => rw [hfq] at hq; simp only [Except.ok.injEq] at hq; subst hq; simp
          | some g =>
            rw [hfq] at hq
            simp only at hq
            cases hw : (walkQ visL a b k g (t.1 + 1, t.2)).1
            · rw [hw] at hq; simp at hq
            · rw [hw] at hq
              simp only [if_true, Except.ok.injEq] at hq
              subst hq
              exact walkL_all k g _ hw

theorem foldE_none {α : Type} {g : Int × Option (List Int) → α → Except (Int × Option (List Int)) (Int × Option (List Int))} (F : α → List (List Int)) : ∀ (xs : List α) (s : Int × Option (List Int)), (∀ x ∈ xs, ∀ t t', g t x = .ok t' → t'.2 = t.2 ∧ F x = []) → (∀ x ∈ xs, ∀ t e, g t x = .error e → 5000 < e.1 ∨ ∃ h ∈ F x, e.2 = some h) →
    (∀ s', foldE g xs s = .ok s' → s'.2 = s.2 ∧ xs.flatMap F = []) ∧ (∀ e, foldE g xs s = .error e → 5000 < e.1 ∨ ∃ h ∈ xs.flatMap F, e.2 = some h)
  | [], s, _, _ => ⟨fun s' h => by simp only [foldE, Except.ok.injEq] at h; subst h; simp, fun e h => by simp [foldE] at h⟩
  | x :: xs, s, h1, h2 => by
    simp only [foldE]
    cases hx : g s x with
    | error e =>
      refine ⟨fun s' h => by simp at h, fun e' h => ?_⟩
      simp only [Except.error.injEq] at h
      subst h
      rcases h2 x (by simp) s e hx with h3 | ⟨h, h3, h4⟩
      · exact .inl h3
      · exact .inr ⟨h, by simp [h3], h4⟩
    | ok c =>
      obtain ⟨i1, i2⟩ := foldE_none F xs c (fun y hy => h1 y (by simp [hy])) (fun y hy => h2 y (by simp [hy]))
      obtain ⟨c1, c2⟩ := h1 x (by simp) s c hx
      refine ⟨fun s' h => ?_, fun e h => ?_⟩
      · obtain ⟨i3, i4⟩ := i1 s' h
        exact ⟨i3.trans c1, by rw [List.flatMap_cons, c2, i4]; rfl⟩
      · rcases i2 e h with i3 | ⟨h', i3, i4⟩
        · exact .inl i3
        · exact .inr ⟨h', by simp only [List.flatMap_cons, List.mem_append]; exact .inr i3, i4⟩
theorem walkF_some {a b : Al} (hcl : ∀ g v h, openAt g < g.length → fitsQ a b (g.set (openAt g) v) = some h → v ∈ rangeI b.1.toNat → mapB a.1 b.1 g → mapB a.1 b.1 h ∧ opens h < opens g) : ∀ (k : Nat) (f : List Int) (s : Int × Option (List Int)), mapB a.1 b.1 f → opens f < k →
    ((walkQ visF a b k f s).1 = true → (walkQ visF a b k f s).2.2 = s.2 ∧ leafQ a b k f = []) ∧ ((walkQ visF a b k f s).1 = false → 5000 < (walkQ visF a b k f s).2.1 ∨ ∃ h ∈ leafQ a b k f, (walkQ visF a b k f s).2.2 = some h)
  | 0, f, s, _, h => by omega
  | k + 1, f, s, hf, hk => by
    simp only [walkQ, leafQ]
    by_cases he : openAt f = f.length
    · rw [if_pos he, if_pos he]
      exact ⟨fun h => by simp [visF] at h, fun _ => .inr ⟨f, by simp, rfl⟩⟩
    · rw [if_neg he, if_neg he]
      have hlt : openAt f < f.length := by have := openAt_le f; omega
      obtain ⟨i1, i2⟩ := foldE_none (g := valQ (walkQ visF a b k) a b f) (fun v => match fitsQ a b (f.set (openAt f) v) with
          | none => []
          | some g => leafQ a b k g) (rangeI b.1.toNat) s (fun v hv t t' hq => by
        unfold valQ at hq
        by_cases h5 : 5000 < t.1 + 1
        · rw [if_pos h5] at hq; simp at hq
        · rw [if_neg h5] at hq
          cases hfq : fitsQ a b (f.set (openAt f) v) with
          | none => rw [hfq] at hq; simp only [Except.ok.injEq] at hq; subst hq; simp
          | some g =>
            rw [hfq] at hq
            simp only at hq
            obtain ⟨g1, g2⟩ := hcl f v g hlt hfq hv hf
            have ih := walkF_some hcl k g (t.1 + 1, t.2) g1 (by omega)
            cases hw : (walkQ visF a b k g (t.1 + 1, t.2)).1
            · rw [hw] at hq; simp at hq
            · rw [hw] at hq
              simp only [if_true, Except.ok.injEq] at hq
              subst hq
              exact ih.1 hw) (fun v hv t e hq => by
        unfold valQ at hq
        by_cases h5 : 5000 < t.1 + 1
        · rw [if_pos h5] at hq
          simp only [Except.error.injEq] at hq
          subst hq
          exact .inl h5
        · rw [if_neg h5] at hq
          cases hfq : fitsQ a b (f.set (openAt f) v) with
          | none => rw [hfq] at hq; simp at hq
          | some g =>
            rw [hfq] at hq
            simp only at hq
            obtain ⟨g1, g2⟩ := hcl f v g hlt hfq hv hf
            have ih := walkF_some hcl k g (t.1 + 1, t.2) g1 (by omega)
            cases hw : (walkQ visF a b k g (t.1 + 1, t.2)).1
            · rw [hw] at hq
              simp only [Bool.false_eq_true, if_false, Except.error.injEq] at hq
              subst hq
              exact ih.2 hw
            · rw [hw] at hq
              simp at hq)
      cases hc : foldE (valQ (walkQ visF a b k) a b f) (rangeI b.1.toNat) s with
      | error e => exact ⟨fun h => by simp at h, fun _ => i2 e hc⟩
      | ok s' => exact ⟨fun _ => i1 s' hc, fun h => by simp at h⟩
end Go.Pure
namespace Go.Pure
open Go.Abs

def startL (n : Nat) : List Int := List.replicate n (-1)
theorem start_mapB {n m : Int} (hn : 0 ≤ n) (hm : 1 ≤ m) : mapB n m (startL n.toNat) := ⟨by simp [startL]; omega, fun x hx => by
  have := List.eq_of_mem_replicate hx; omega⟩
theorem start_opens (n : Nat) : opens (startL n) ≤ n := by
  have := List.length_filter_le (fun x => decide (x < 0)) (startL n)
  simpa [startL, opens] using this
theorem start_sub {n : Int} (h : List Int) : sub n (startL n.toNat) h := by
  intro x x0 x1 hx
  unfold ap startL at hx
  rw [List.getD_eq_getElem?_getD, List.getElem?_replicate, if_pos (by omega)] at hx
  simp at hx

theorem start_impl {n : Int} (h0 : 0 ≤ n) (h8 : n ≤ 8) : (Option.bind (mkS (0 : Int) n) fun x1 =>
    loopO (σ := ((List Int) × Int)) (ρ := (List Int)) (fun s11 =>
      if decide (s11.2 < (x1.length : Int)) = true then
        Option.bind (idx s11.1 s11.2) fun x12 =>
        some (Lp.more (s11.1.set s11.2.toNat (-1 : Int), w64 (s11.2 + (1 : Int))))
      else
        some (Lp.done s11.1)) (x1, (0 : Int))) = some (startL n.toNat) := by
  rw [mkS_int h0 (by omega)]
  simp only [Option.bind_some]
  have := loop_nat (f := (fun s11 : (List Int) × Int =>
      if decide (s11.2 < ((List.replicate n.toNat (0 : Int)).length : Int)) = true then
        Option.bind (idx s11.1 s11.2) fun x12 =>
        some (Lp.more (s11.1.set s11.2.toNat (-1 : Int), w64 (s11.2 + (1 : Int))))
      else
        some (Lp.done s11.1))) (fun j => (List.replicate j (-1) ++ List.replicate (n.toNat - j) 0, (j : Int))) n.toNat (z := startL n.toNat) (fun j hj => ?_) ?_
  · simpa using this
  · have h1 : (j : Int) < ((List.replicate n.toNat (0 : Int)).length : Int) := by simp; omega
    simp only [h1, decide_true, if_true]
    rw [idx_nat (by simp; omega), w64_eq (by omega) (by omega)]
    simp only [Option.bind_some, Int.toNat_natCast]
    congr 3
    have e : n.toNat - j = (n.toNat - (j + 1)) + 1 := by omega
    rw [e, List.replicate_succ, mid_set (by simp), List.replicate_succ', List.append_assoc]
    rfl
  · have h1 : ¬ ((n.toNat : Nat) : Int) < ((List.replicate n.toNat (0 : Int)).length : Int) := by simp
    simp only [h1, decide_false, Bool.false_eq_true, if_false]
    simp [startL]

theorem start_spec {n : Int} (h0 : 0 ≤ n) (h8 : n ≤ 8) : loopO (σ := ((List Int) × Int)) (ρ := (List Int)) (fun s10 =>
      if decide (s10.2 < n) = true then
        Option.bind (app s10.1 ([(-1 : Int)])) fun x11 =>
        some (Lp.more (x11, w64 (s10.2 + (1 : Int))))
      else
        some (Lp.done s10.1)) ([], (0 : Int)) = some (startL n.toNat) := by
  have := loop_nat (f := (fun s10 : (List Int) × Int =>
      if decide (s10.2 < n) = true then
        Option.bind (app s10.1 ([(-1 : Int)])) fun x11 =>
        some (Lp.more (x11, w64 (s10.2 + (1 : Int))))
      else
        some (Lp.done s10.1))) (fun j => (List.replicate j (-1), (j : Int))) n.toNat (z := startL n.toNat) (fun j hj => ?_) ?_
  · simpa using this
  · have h1 : (j : Int) < n := by omega
    simp only [h1, decide_true, if_true]
    rw [app_ok (by simp; omega), w64_eq (by omega) (by omega)]
    simp only [Option.bind_some, List.replicate_succ']
    rfl
  · have h1 : ¬ ((n.toNat : Nat) : Int) < n := by omega
    simp only [h1, decide_false, Bool.false_eq_true, if_false]
    rfl

def searchR {St : Type} (visit : List Int → St → Bool × St) (st : St) (a b : Al) : Bool × St := match fitsQ a b (startL a.1.toNat) with
  | none => (true, st)
  | some g => (decide ((walkQ visit a b 30 g (0, st)).2.1 ≤ 5000), (walkQ visit a b 30 g (0, st)).2.2)

theorem start_fits {a b : Al} (ha : algB a = true) (hb : algB b = true) (ht : typeL a = typeL b) {g : List Int} (hg : fitsQ a b (startL a.1.toNat) = some g) : mapB a.1 b.1 g ∧ opens g < 30 ∧ closedP a b g ∧ intoB g = true := by
  obtain ⟨a1, a8, _, _⟩ := algB_size ha
  obtain ⟨b1, b8, _, _⟩ := algB_size hb
  obtain ⟨h1, _, h3, h4, h5⟩ := fits_sound ha hb ht (start_mapB (by omega) b1) hg
  have := start_opens a.1.toNat
  exact ⟨h1, by omega, h3, h4⟩

theorem searchHomsF_eq {a b : Al} (ha : algB a = true) (hb : algB b = true) (ht : typeL a = typeL b) : impl_searchHoms_with_firstHom_1_with_anyHom a b true none = some (searchR visF none a b) := by
  obtain ⟨a1, a8, _, _⟩ := algB_size ha
  obtain ⟨b1, b8, _, _⟩ := algB_size hb
  have hs := start_impl (n := a.1) (by omega) (by omega)
  unfold impl_searchHoms_with_firstHom_1_with_anyHom searchR
  rw [mkS_int (by omega) (by omega)] at hs ⊢
  simp only [Option.bind_some] at hs ⊢
  rw [hs]
  simp only [Option.bind_some]
  obtain ⟨e, he⟩ := fits_firstHom_1_with_anyHom ha hb ht (start_mapB (n := a.1) (by omega) b1) 0 none
  rw [he]
  cases hg : fitsQ a b (startL a.1.toNat) with
  | none => simp
  | some g =>
    obtain ⟨g1, g2, _, _⟩ := start_fits ha hb ht hg
    have := extend_firstHom_1_with_anyHom ha hb ht 30 g (0, none) g1 g2 ⟨by simp, by simp, trivial⟩
    simp only at this
    simp only [Option.bind_some, if_true, this]

theorem searchHomsL_eq {a b : Al} (ha : algB a = true) (hb : algB b = true) (ht : typeL a = typeL b) : impl_searchHoms_with_listHoms_1 a b true [] = some (searchR visL [] a b) := by
  obtain ⟨a1, a8, _, _⟩ := algB_size ha
  obtain ⟨b1, b8, _, _⟩ := algB_size hb
  have hs := start_impl (n := a.1) (by omega) (by omega)
  unfold impl_searchHoms_with_listHoms_1 searchR
  rw [mkS_int (by omega) (by omega)] at hs ⊢
  simp only [Option.bind_some] at hs ⊢
  rw [hs]
  simp only [Option.bind_some]
  obtain ⟨e, he⟩ := fits_listHoms_1 ha hb ht (start_mapB (n := a.1) (by omega) b1) 0 []
  rw [he]
  cases hg : fitsQ a b (startL a.1.toNat) with
  | none => simp
  | some g =>
    obtain ⟨g1, g2, _, _⟩ := start_fits ha hb ht hg
    have := extend_listHoms_1 ha hb ht 30 g (0, []) g1 g2 ⟨by simp, by simp, by simp⟩
    simp only at this
    simp only [Option.bind_some, if_true, this]

theorem l7Find_eq {a b : Al} (ha : algB a = true) (hb : algB b = true) (ht : typeL a = typeL b) : spec_l7Find a b true false 301 = some ((searchR visL [] a b).2, (searchR visL [] a b).1) := by
  obtain ⟨a1, a8, _, _⟩ := algB_size ha
  obtain ⟨b1, b8, _, _⟩ := algB_size hb
  unfold spec_l7Find searchR
  rw [start_spec (by omega) (by omega)]
  simp only [Option.bind_some]
  obtain ⟨x, x1, x2, x3⟩ := fits_spec ha hb ht (start_mapB (n := a.1) (by omega) b1)
  rw [x1]
  simp only [Option.bind_some]
  have x2' : (if x.2 = true then (if (!true) = true then some true else Option.bind (spec_l7Into x.1) fun x104 => some x104) else some false) = some (fitsQ a b (startL a.1.toNat)).isSome := by
    rw [← x2]
    cases (if x.2 = true then (if (!true) = true then some true else Option.bind (spec_l7Into x.1) fun x104 => some x104) else some false) <;> rfl
  refine (congrArg (fun o => Option.bind o _) x2').trans ?_
  simp only [Option.bind_some]
  cases hg : fitsQ a b (startL a.1.toNat) with
  | none => simp
  | some g =>
    obtain ⟨g1, g2, _, _⟩ := start_fits ha hb ht hg
    have := walk_eq ha hb ht 30 g (0, []) g1 g2 ⟨by simp, by simp, by simp [J300]⟩
    unfold mkSS at this
    simp only at this
    simp only [Option.isSome_some, if_true, x3 g hg]
    rw [this]
    rfl

def autsR (a : Al) : List (List Int) × Bool := if !(searchR visL [] a a).1 || decide (300 < (searchR visL [] a a).2.length) then ([], false) else ((searchR visL [] a a).2, true)
theorem Automorphisms_eq {a : Al} (ha : algB a = true) : impl_Automorphisms a = some (autsR a) := by
  unfold impl_Automorphisms impl_listHoms autsR
  rw [IsAlgebra_eq, ha]
  simp only [Option.bind_some, Bool.not_true, Bool.false_eq_true, if_false]
  rw [searchHomsL_eq ha ha rfl]
  simp only [Option.bind_some]
  cases (searchR visL [] a a).1
  · simp
  · simp only [Option.bind_some, Bool.not_true, Bool.false_eq_true, if_false, Bool.false_or]
    by_cases h : 300 < (searchR visL [] a a).2.length
    · have : (300 : Int) < ((searchR visL [] a a).2.length : Int) := by omega
      simp [h, this]
    · have : ¬ (300 : Int) < ((searchR visL [] a a).2.length : Int) := by omega
      simp [h, this]
theorem spec_Automorphisms_eq {a : Al} (ha : algB a = true) : spec_Automorphisms a = some (autsR a) := by
  unfold spec_Automorphisms spec_l7Auts autsR
  rw [l2Good_eq, ha]
  simp only [Option.bind_some, Bool.not_true, Bool.false_eq_true, if_false]
  rw [l7Find_eq ha ha rfl]
  cases (searchR visL [] a a).1
  · simp
  · simp only [Option.bind_some, Bool.not_true, Bool.false_eq_true, if_false, Bool.false_or]
    by_cases h : 300 < (searchR visL [] a a).2.length
    · have : (300 : Int) < ((searchR visL [] a a).2.length : Int) := by omega
      simp [h, this]
    · have : ¬ (300 : Int) < ((searchR visL [] a a).2.length : Int) := by omega
      simp [h, this]

/-- All maps of the wanted kind. -/
def allQ (a b : Al) : List (List Int) := match fitsQ a b (startL a.1.toNat) with
  | none => []
  | some g => leafQ a b 30 g
theorem all_mem {a b : Al} (ha : algB a = true) (hb : algB b = true) (ht : typeL a = typeL b) : (∀ h, h ∈ allQ a b ↔ homP a b h ∧ intoB h = true) ∧ (allQ a b).Nodup := by
  obtain ⟨a1, a8, _, _⟩ := algB_size ha
  obtain ⟨b1, b8, _, _⟩ := algB_size hb
  have hm := start_mapB (n := a.1) (m := b.1) (by omega) b1
  unfold allQ
  cases hg : fitsQ a b (startL a.1.toNat) with
  | none =>
    refine ⟨fun h => ⟨fun h1 => by simp at h1, fun ⟨h1, h2⟩ => ?_⟩, by simp⟩
    obtain ⟨g, e, _⟩ := fits_complete ha hb ht hm h1 h2 (start_sub h)
    rw [hg] at e
    simp at e
  | some g =>
    obtain ⟨g1, g2, g3, g4⟩ := start_fits ha hb ht hg
    obtain ⟨h1, h2⟩ := leaf_mem ha hb ht 30 g g1 g2 g3 g4
    refine ⟨fun h => (h1 h).trans ⟨fun h => ⟨h.1, h.2.1⟩, fun h => ⟨h.1, h.2, ?_⟩⟩, h2⟩
    obtain ⟨g', e, hs⟩ := fits_complete ha hb ht hm h.1 h.2 (start_sub _)
    rw [hg, Option.some.injEq] at e
    subst e
    exact hs

theorem into_nodup {n m : Int} {h : List Int} (ht : totB n m h) : intoB h = true ↔ h.Nodup := by
  rw [into_iff, List.nodup_iff_pairwise_ne, List.pairwise_iff_getElem]
  constructor
  · intro hi i j h1 h2 hij
    have h0 := ht.2 _ (List.getElem_mem h2)
    have := hi i j hij h2 (by rw [getD_eq h2]; exact h0.1)
    rwa [getD_eq h1, getD_eq h2] at this
  · intro hi i j hij hj _
    rw [getD_eq (show i < h.length by omega), getD_eq hj]
    exact hi i j (by omega) hj hij

theorem hom_iff {a b : Al} (ha : algB a = true) (hb : algB b = true) (ht : typeL a = typeL b) (hn : a.1 = b.1) (h : List Int) : (homP a b h ∧ intoB h = true) ↔ (permP a.1 h ∧ ren a h = b) := by
  obtain ⟨a1, a8, _, af⟩ := algB_size ha
  have hlen : a.2.1.length = b.2.1.length := by have := congrArg List.length ht; simpa [typeL] using this
  constructor
  · rintro ⟨h1, h2⟩
    have hp : permP a.1 h := ⟨⟨h1.1.1, fun x hx => by have := h1.1.2 x hx; rw [← hn] at this; exact this⟩, (into_nodup h1.1).1 h2⟩
    refine ⟨hp, al_ext hn ?_⟩
    refine List.ext_getElem (by simp [ren, hlen]) fun k k1 k2 => ?_
    have ka : k < a.2.1.length := by omega
    have hk := h1.2 (a.2.1[k], b.2.1[k]) (List.mem_iff_getElem.2 ⟨k, by simp; omega, by simp⟩)
    have htk : (a.2.1[k]).1 = (b.2.1[k]).1 := by
      have : (typeL a)[k]? = (typeL b)[k]? := by rw [ht]
      simpa [typeL, List.getElem?_eq_getElem ka, List.getElem?_eq_getElem k2] using this
    show (ren a h).2.1[k] = b.2.1[k]
    simp only [ren, List.getElem_map]
    have fa := af _ (List.getElem_mem ka)
    have fb := (algB_size hb).2.2.2 _ (List.getElem_mem k2)
    have hle : (b.2.1[k]).2.1.length = (a.2.1[k]).2.1.length := by
      have e1 := (opB_spec fa).2.2.1
      have e2 := (opB_spec fb).2.2.1
      rw [← hn, ← htk] at e2
      omega
    refine homO_unique a1 hp fa (homO_ren a1 hp fa) ⟨htk.symm, hle, fun i hi => ?_⟩
    have := hk i hi
    unfold holdsAt at this
    simp only at this
    rw [← hn] at this
    exact this.symm
  · rintro ⟨h1, rfl⟩
    refine ⟨⟨⟨h1.1.1, fun x hx => h1.1.2 x hx⟩, fun p hp i hi => ?_⟩, ?_⟩
    · obtain ⟨k, hk, e⟩ := List.getElem_of_mem hp
      have ka : k < a.2.1.length := by simp at hk; omega
      rw [List.getElem_zip] at e
      subst e
      simp only [ren, List.getElem_map]
      exact ((homO_ren a1 h1 (af _ (List.getElem_mem ka))).2.2 i hi).symm
    · exact (into_nodup (n := a.1) (m := a.1) ⟨h1.1.1, h1.1.2⟩).2 h1.2

theorem walk_searchL {a b : Al} (ha : algB a = true) (hb : algB b = true) (ht : typeL a = typeL b) (h1 : (searchR visL [] a b).1 = true) (h2 : (searchR visL [] a b).2.length ≤ 300) : (searchR visL [] a b).2 = allQ a b := by
  unfold searchR allQ at *
  cases hg : fitsQ a b (startL a.1.toNat) with
  | none => rfl
  | some g =>
    obtain ⟨g1, g2, _, _⟩ := start_fits ha hb ht hg
    rw [hg] at h1 h2
    simp only [decide_eq_true_eq] at h1 h2 ⊢
    cases hw : (walkQ visL a b 30 g (0, [])).1
    · have hst := walkL_stop 30 g (0, []) g2 (fun _ _ => trivial) (fun g v h h1 h2 h3 h4 => fits_opens ha hb ht h1 h2 h3 h4) g1 hw
      rcases hst with hst | hst <;> omega
    · rw [walkL_all 30 g (0, []) hw]
      rfl

/-- The automorphisms that the search lists are the symmetries. -/
theorem auts_syms {a : Al} (ha : algB a = true) (h : (autsR a).2 = true) : (autsR a).1.length = (symsL a).length ∧ ∀ σ ∈ symsL a, σ ∈ (autsR a).1 := by
  have he : (autsR a).1 = allQ a a := by
    unfold autsR at h ⊢
    by_cases hc : (!(searchR visL [] a a).1 || decide (300 < (searchR visL [] a a).2.length)) = true
    · rw [if_pos hc] at h; simp at h
    · rw [if_neg hc]
      simp only [Bool.or_eq_true, Bool.not_eq_true', decide_eq_true_eq, not_or, Bool.not_eq_false] at hc
      exact walk_searchL ha ha rfl hc.1 (by omega)
  rw [he]
  obtain ⟨h1, h2⟩ := all_mem ha ha rfl
  have hm : ∀ σ, σ ∈ allQ a a ↔ σ ∈ symsL a := fun σ => by rw [h1, hom_iff ha ha rfl rfl, mem_syms ha]
  refine ⟨Nat.le_antisymm (nodup_len h2 fun σ hσ => (hm σ).1 hσ) (nodup_len (syms_nodup a) fun σ hσ => (hm σ).2 hσ), fun σ hσ => (hm σ).2 hσ⟩

/-- Algebras of one size and type: the search says whether they are alike. -/
theorem AreIsomorphic_eq {a b : Al} (ha : algB a = true) (hb : algB b = true) (ht : typeL a = typeL b) (hn : a.1 = b.1) : ∃ r ok, impl_AreIsomorphic a b = some (r, ok) ∧ (ok = true → r = decide (formL a = formL b)) := by
  have hal : impl_areAlike a b = some true := by
    unfold impl_areAlike impl_alike impl_SameType
    rw [IsAlgebra_eq, IsAlgebra_eq, ha, hb]
    simp only [Option.bind_some, if_true, Bool.not_true, Bool.false_eq_true, if_false]
    rw [typeOf_eq (algB_size ha).2.2.1, typeOf_eq (algB_size hb).2.2.1]
    simp only [Option.bind_some]
    have hl : (typeL a).length ≤ 4 := by have := (algB_size ha).2.2.1; simpa [typeL] using this
    rw [sameList_eq (by omega), ht]
    simp
  unfold impl_AreIsomorphic
  rw [hal]
  have hne : (a.1 != b.1) = false := by simp [hn]
  simp only [Option.bind_some, Bool.not_true, Bool.false_eq_true, if_false, hne]
  unfold impl_firstHom_with_anyHom
  rw [searchHomsF_eq ha hb ht]
  simp only [Option.bind_some]
  cases hok : (searchR visF none a b).1
  · exact ⟨false, false, by simp, by simp⟩
  · refine ⟨!(searchR visF none a b).2.isNone, true, by simp, fun _ => ?_⟩
    have hform : formL a = formL b ↔ ∃ h, h ∈ allQ a b := by
      rw [form_iff ha hb]
      constructor
      · rintro ⟨σ, hσ⟩; exact ⟨σ, ((all_mem ha hb ht).1 σ).2 ((hom_iff ha hb ht hn σ).2 hσ)⟩
      · rintro ⟨σ, hσ⟩; exact ⟨σ, (hom_iff ha hb ht hn σ).1 (((all_mem ha hb ht).1 σ).1 hσ)⟩
    have key : (searchR visF none a b).2.isNone = true ↔ ¬ ∃ h, h ∈ allQ a b := by
      unfold searchR allQ at *
      cases hg : fitsQ a b (startL a.1.toNat) with
      | none => simp
      | some g =>
        obtain ⟨g1, g2, _, _⟩ := start_fits ha hb ht hg
        rw [hg] at hok
        simp only [decide_eq_true_eq] at hok ⊢
        obtain ⟨w1, w2⟩ := walkF_some (fun g v h h1 h2 h3 h4 => fits_opens ha hb ht h1 h2 h3 h4) 30 g (0, none) g1 g2
        cases hw : (walkQ visF a b 30 g (0, none)).1
        · rcases w2 hw with h | ⟨h, h1, h2⟩
          · omega
          · rw [h2]
            simp only [Option.isNone_some, Bool.false_eq_true, false_iff, Classical.not_not]
            exact ⟨h, h1⟩
        · obtain ⟨h1, h2⟩ := w1 hw
          rw [h1, h2]
          simp
    by_cases hf : formL a = formL b
    · have : ¬ (searchR visF none a b).2.isNone = true := fun h => key.1 h (hform.1 hf)
      simp only [Bool.not_eq_true] at this
      rw [this, decide_eq_true hf]
      rfl
    · have : (searchR visF none a b).2.isNone = true := key.2 fun h => hf (hform.2 h)
      rw [this, decide_eq_false hf]
      rfl
end Go.Pure
namespace Go.Pure
open Go.Abs

theorem rInts_self {l : List Int} (h : l.length < 4611686018427387904) : laws_rInts l l = some true := by
  rw [show laws_rInts l l = spec_l1Same l l from rfl, l1Same_eq h]
  simp
theorem rTable_self {t : List (List Int)} (h : t.length < 4611686018427387904) (hl : ∀ x ∈ t, x.length < 4611686018427387904) : laws_rTable t t = some true := by
  unfold laws_rTable
  have h1 : ((t.length : Int) != (t.length : Int)) = false := by simp
  simp only [h1, Bool.false_eq_true, if_false]
  rw [loop_all (n := t.length) (z := false) (fun _ => true) h (fun k hk => ?_) (by simp)]
  · simp [Ex.cont]
  · have h2 : (k : Int) < (t.length : Int) := by omega
    simp only [h2, decide_true, if_true, idx_nat hk, Option.bind_some]
    rw [rInts_self (hl _ (List.getElem_mem hk))]
    simp
theorem rOps_self {t : List Op} (h : t.length < 4611686018427387904) (hl : ∀ x ∈ t, x.2.1.length < 4611686018427387904) : laws_rOps t t = some true := by
  unfold laws_rOps
  have h1 : ((t.length : Int) != (t.length : Int)) = false := by simp
  simp only [h1, Bool.false_eq_true, if_false]
  rw [loop_all (n := t.length) (z := false) (fun _ => true) h (fun k hk => ?_) (by simp)]
  · simp [Ex.cont]
  · have h2 : (k : Int) < (t.length : Int) := by omega
    simp only [h2, decide_true, if_true, idx_nat hk, Option.bind_some]
    unfold laws_rOp
    rw [rInts_self (hl _ (List.getElem_mem hk))]
    simp
theorem rAlgebra_self {a : Al} (ha : algB a = true) : laws_rAlgebra a a = some true := by
  obtain ⟨h1, h8, h4, hf⟩ := algB_size ha
  unfold laws_rAlgebra
  rw [rOps_self (by omega) (fun x hx => by have := op_len h1 h8 (hf x hx); omega)]
  simp
theorem rPlace_eq {ts : List (List Int)} {t : List Int} (h : ts.length < 4611686018427387904) (hl : ∀ x ∈ ts, x.length < 4611686018427387904) : ∃ p, laws_rPlace ts t = some p ∧ decide (p < 0) = !(ts.contains t) :=
  place_eq h hl

theorem isOrder_eq {n : Int} {l : List Int} (h0 : 0 ≤ n) (h8 : n ≤ 1000) (h : permP n l) : impl_isOrder l n = some true := by
  unfold impl_isOrder
  have h1 : ((l.length : Int) != n) = false := by simp [h.1.1]
  have hl := h.1.1
  have hin : inS n l = true := by
    unfold inS
    rw [List.all_eq_true]
    intro x hx
    have := h.1.2 x hx
    simp [this]
  simp only [h1, Bool.false_eq_true, if_false]
  rw [inSize_eq (by omega), hin, mkS_int h0 (by omega)]
  simp only [Option.bind_some, Bool.not_true, Bool.false_eq_true, if_false]
  have hlp := loop_allS (f := (fun s22 : (List Bool) × Int =>
        if decide (s22.2 < (l.length : Int)) = true then
          Option.bind (idx l s22.2) fun x23 =>
          Option.bind (idx s22.1 x23) fun x24 =>
          if x24 = true then
            some (Lp.done (Ex.out false))
          else
            Option.bind (idx s22.1 x23) fun x25 =>
            some (Lp.more (s22.1.set x23.toNat true, w64 (s22.2 + (1 : Int))))
        else
          some (Lp.done (Ex.fall ())))) (fun k => (seenL n.toNat l k, (k : Int))) l.length (z := false) (fun k => !((l.take k).contains (l.getD k 0))) (fun k hk => ?_) (by simp)
  · rw [seenL_zero] at hlp
    refine (congrArg (fun o => Option.bind o _) hlp).trans ?_
    have : (List.range l.length).all (fun k => !((l.take k).contains (l.getD k 0))) = true := by
      have hi := (into_nodup (n := n) (m := n) ⟨h.1.1, h.1.2⟩).2 h.2
      unfold intoB at hi
      rw [List.all_eq_true] at hi ⊢
      intro k hk
      have := hi k hk
      have hk' := List.mem_range.1 hk
      have h3 := h.1.2 _ (List.getElem_mem hk')
      rw [getD_eq hk'] at this ⊢
      have h4 : ¬ l[k] < 0 := by omega
      simpa [h4] using this
    rw [this]
    rfl
  · have h2 : (k : Int) < (l.length : Int) := by omega
    have hr := h.1.2 _ (List.getElem_mem hk)
    simp only [h2, decide_true, if_true, idx_nat hk, Option.bind_some, getD_eq hk]
    rw [w64_eq (by omega) (by omega), seenL_get hr.1 (show l[k] < (n.toNat : Int) by omega), seenL_set hk hr.1]
    cases (l.take k).contains l[k] <;> simp

theorem CanonicalForm_eq {a : Al} (h : namedB a = true) : impl_CanonicalForm a = some (formL a, true) := by
  unfold impl_CanonicalForm
  rw [isNamed_eq, h]
  simp only [Option.bind_some, Bool.not_true, Bool.false_eq_true, if_false, canonical_form (named_algB h)]
theorem CanonicalNames_eq {a : Al} (h : namedB a = true) : impl_CanonicalNames a = some (bestN a, true) := by
  unfold impl_CanonicalNames
  rw [isNamed_eq, h]
  simp only [Option.bind_some, Bool.not_true, Bool.false_eq_true, if_false, canonical_form (named_algB h)]
theorem spec_CanonicalForm_eq {a : Al} (h : namedB a = true) : spec_CanonicalForm a = some (formL a, true) := by
  unfold spec_CanonicalForm
  rw [l31Takes_eq, h]
  simp only [Option.bind_some, Bool.not_true, Bool.false_eq_true, if_false, l31Form_eq (named_algB h)]
theorem RenameElements_eq {a : Al} (ha : algB a = true) {σ : List Int} (h : permP a.1 σ) : impl_RenameElements a σ = some (ren a σ, true) := by
  obtain ⟨h1, h8, _, _⟩ := algB_size ha
  unfold impl_RenameElements
  rw [IsAlgebra_eq, ha]
  simp only [Option.bind_some, Bool.not_true, Bool.false_eq_true, if_false]
  rw [isOrder_eq (by omega) (by omega) h]
  simp only [Option.bind_some, Bool.not_true, Bool.false_eq_true, if_false, rename_ren ha h]
theorem form_named {a : Al} (h : namedB a = true) : namedB (formL a) = true := by
  have h5 := named_size h
  unfold namedB
  rw [form_algB (named_algB h), Bool.true_and]
  exact decide_eq_true h5
theorem form_form {a : Al} (ha : algB a = true) : formL (formL a) = formL a := ((form_iff ha (form_algB ha)).2 ⟨_, best_perm ha, rfl⟩).symm

theorem syms_short {a : Al} (ha : algB a = true) : ∀ x ∈ symsL a, x.length < 4611686018427387904 := by
  intro x hx
  have h1 := ((mem_syms ha).1 hx).1.1.1
  have := (algB_size ha).2.1
  omega
theorem syms_few {a : Al} (h : namedB a = true) : (symsL a).length ≤ 120 := by
  have ha := named_algB h
  have h5 := named_size h
  have h1 := (algB_size ha).1
  have := List.length_filter_le (fun σ => decide (ren a σ = a)) (ords a.1.toNat a.1.toNat [])
  rw [ords_fact] at this
  have hs := fact_small (n := a.1.toNat) (by omega)
  unfold symsL
  omega

theorem auts_small (a : Al) : (autsR a).1.length ≤ 300 := by
  unfold autsR
  split
  · simp
  · next h =>
    simp only [Bool.or_eq_true, Bool.not_eq_true', decide_eq_true_eq, not_or] at h
    simp only
    omega

theorem auts_all {a : Al} (ha : algB a = true) : (autsR a).1 = [] ∨ (autsR a).1 = allQ a a := by
  unfold autsR
  by_cases hc : (!(searchR visL [] a a).1 || decide (300 < (searchR visL [] a a).2.length)) = true
  · rw [if_pos hc]; exact .inl rfl
  · rw [if_neg hc]
    simp only [Bool.or_eq_true, Bool.not_eq_true', decide_eq_true_eq, not_or, Bool.not_eq_false] at hc
    exact .inr (walk_searchL ha ha rfl hc.1 (by omega))
theorem auts_short {a : Al} (ha : algB a = true) : ∀ y ∈ (autsR a).1, y.length < 4611686018427387904 := by
  intro y hy
  rcases auts_all ha with h | h
  · rw [h] at hy; simp at hy
  · rw [h] at hy
    have h1 := (((all_mem ha ha rfl).1 y).1 hy).1.1.1
    have := (algB_size ha).2.1
    omega

theorem SameType_eq {a b : Al} (ha : algB a = true) (hb : algB b = true) : impl_SameType a b = some (decide (typeL a = typeL b), true) := by
  unfold impl_SameType
  rw [IsAlgebra_eq, IsAlgebra_eq, ha, hb]
  simp only [Option.bind_some, Bool.not_true, Bool.false_eq_true, if_false]
  rw [typeOf_eq (algB_size ha).2.2.1, typeOf_eq (algB_size hb).2.2.1]
  simp only [Option.bind_some]
  have hl : (typeL a).length ≤ 4 := by have := (algB_size ha).2.2.1; simpa [typeL] using this
  rw [sameList_eq (by omega)]
  simp only [Option.bind_some, Option.some.injEq, Prod.mk.injEq, and_true]
  rw [Bool.eq_iff_iff]
  simp

/-- The part of the law that asks the search: it never speaks against. -/
theorem law_iso {a b : Al} {v : Bool × Bool} (hv : v = if namedB a && namedB b then (decide (formL a = formL b), true) else (false, false)) : (Option.bind (α := Bool) (
        if v.2 = true then
          some (a.1 == b.1)
        else
          some false)
      (fun s8 => 
        if s8 = true then
          Option.bind (impl_SameType a b) fun x21 =>
          Option.bind (α := Bool) (
            if x21.2 = true then
              some x21.1
            else
              some false)
          (fun s22 =>
          if s22 = true then
            Option.bind (impl_AreIsomorphic a b) fun x25 =>
            Option.bind (α := Bool) (
              if x25.2 = true then
                some (x25.1 != v.1)
              else
                some false)
            (fun s26 =>
            if s26 = true then
              some (Ex.out false)
            else
              some (Ex.fall ()))
          else
            some (Ex.fall ()))
        else
          some (Ex.fall ()))) = some (Ex.fall () : Ex Unit Bool) := by
  by_cases hn : (namedB a && namedB b) = true
  · rw [if_pos hn] at hv
    subst hv
    simp only [Bool.and_eq_true] at hn
    have ha := named_algB hn.1
    have hb := named_algB hn.2
    simp only [if_true, Option.bind_some]
    by_cases e : a.1 = b.1
    · have e' : (a.1 == b.1) = true := by simp [e]
      simp only [e', if_true]
      rw [SameType_eq ha hb]
      simp only [Option.bind_some, if_true]
      by_cases ht : typeL a = typeL b
      · simp only [ht, decide_true, if_true]
        obtain ⟨r, ok, h1, h2⟩ := AreIsomorphic_eq ha hb ht e
        rw [h1]
        cases ok
        · simp
        · rw [h2 rfl]
          simp
      · simp [ht]
    · have e' : (a.1 == b.1) = false := by simp [e]
      simp [e']
  · rw [if_neg hn] at hv
    subst hv
    simp

theorem law_core {code : List Int} {x : Al × Al} (hbig : laws_rBig code = some false) (hx : spec_DrawHaveSameForm code = some x) : laws_FnCopies code = some true := by
  unfold laws_FnCopies
  rw [hbig]
  simp only [Option.bind_some, Bool.false_eq_true, if_false]
  rw [hx]
  simp only [Option.bind_some, HaveSameForm_eq, spec_HaveSameForm_eq, bne_self_eq_false, Bool.false_eq_true, if_false]
  have hiso := law_iso (a := x.1) (b := x.2) rfl
  generalize hv : (if namedB x.1 && namedB x.2 then (decide (formL x.1 = formL x.2), true) else (false, false)) = v at hiso ⊢
  cases h8 : (if v.2 = true then some (x.1.1 == x.2.1) else some false : Option Bool) with
  | none => rw [h8] at hiso; simp at hiso
  | some s8 =>
    rw [h8] at hiso
    simp only [Option.bind_some] at hiso ⊢
    rw [hiso]
    simp only [Option.bind_some, Ex.cont]
    rw [SymmetriesOf_eq, spec_SymmetriesOf_eq]
    simp only [Option.bind_some, bne_self_eq_false, Bool.false_eq_true, if_false]
    cases hna : namedB x.1
    · simp only [Bool.false_eq_true, if_false]
      rw [rTable_self (by simp) (by simp)]
      simp
    · have ha := named_algB hna
      have h5 := named_size hna
      obtain ⟨h1, h8, h4, hf⟩ := algB_size ha
      have hsf := syms_few hna
      simp only [if_true]
      rw [rTable_self (by omega) (syms_short ha)]
      simp only [Option.bind_some, Bool.not_true, Bool.false_eq_true, if_false]
      rw [CountCopies_eq, spec_CountCopies_eq, hna]
      simp only [if_true, Option.bind_some, bne_self_eq_false, Bool.false_eq_true, if_false, Bool.not_true]
      rw [fact_loop h1 h5]
      simp only [Option.bind_some]
      have hoc := orbit_count ha
      have hfs := fact_small (n := x.1.1.toNat) (by omega)
      have hw : w64 (((copiesL x.1).length : Int) * ((symsL x.1).length : Int)) = (factN x.1.1.toNat : Int) := by
        rw [← Int.natCast_mul, hoc, w64_eq (by omega) (by omega)]
      rw [hw]
      simp only [bne_self_eq_false, Bool.false_eq_true, if_false]
      rw [Automorphisms_eq ha, spec_Automorphisms_eq ha]
      simp only [Option.bind_some, bne_self_eq_false, Bool.false_eq_true, if_false]
      have hasm := auts_small x.1
      rw [rTable_self (by omega) (auts_short ha)]
      simp only [Option.bind_some, Bool.not_true, Bool.false_eq_true, if_false]
      have hlen : (if (autsR x.1).2 = true then some (((autsR x.1).1.length : Int) != ((symsL x.1).length : Int)) else some false) = some false := by
        cases hok : (autsR x.1).2
        · rfl
        · have := (auts_syms ha hok).1
          simp [this]
      rw [hlen]
      simp only [Option.bind_some, Bool.false_eq_true, if_false]
      rw [loop_all (n := (symsL x.1).length) (z := false) (fun _ => true) (by omega) (fun k hk => ?_) (by simp)]
      · have hall : (List.range (symsL x.1).length).all (fun _ => true) = true := by simp
        simp only [hall, if_true, Option.bind_some]
        rw [CanonicalForm_eq hna, CanonicalNames_eq hna]
        simp only [Option.bind_some]
        rw [RenameElements_eq ha (best_perm ha), CanonicalForm_eq (form_named hna), spec_CanonicalForm_eq hna, form_form ha]
        simp only [Option.bind_some, bne_self_eq_false, Bool.false_eq_true, if_false, Bool.not_true]
        rw [rAlgebra_self (form_algB ha)]
        simp only [Option.bind_some, Bool.not_true, Bool.false_eq_true, if_false, if_true]
        rw [show ren x.1 (bestN x.1) = formL x.1 from rfl, rAlgebra_self (form_algB ha)]
        simp [Ex.cont]
      · have h2 : (k : Int) < ((symsL x.1).length : Int) := by omega
        simp only [h2, decide_true, if_true, idx_nat hk, Option.bind_some]
        cases hok : (autsR x.1).2
        · simp
        · obtain ⟨p, p1, p2⟩ := rPlace_eq (ts := (autsR x.1).1) (t := (symsL x.1)[k]) (by omega) (auts_short ha)
          have hm : (autsR x.1).1.contains (symsL x.1)[k] = true := by
            simpa using (auts_syms ha hok).2 _ (List.getElem_mem hk)
          rw [hm, Bool.not_true] at p2
          simp only [if_true]
          rw [p1]
          simp only [Option.bind_some, p2, Bool.false_eq_true, if_false]
end Go.Pure
namespace Go.Pure
open Go.Abs

abbrev Cur := (List Int) × (Int × (Int × Unit))
def codeB (code : List Int) : Prop := code.length ≤ 65536 ∧ ∀ x ∈ code, 0 ≤ x ∧ x ≤ 255
def okU (code : List Int) (N : Int) (c : Cur) : Prop := c.1 = code ∧ 0 ≤ c.2.1 ∧ c.2.1 ≤ N
theorem okU_le {code : List Int} {N M : Int} {c : Cur} (h : okU code N c) (h2 : N ≤ M) : okU code M c := ⟨h.1, h.2.1, by have := h.2.2; omega⟩

theorem wu64_eq {x : Int} (h1 : 0 ≤ x) (h2 : x < 18446744073709551616) : IntKind.wrap .u64 x = x := by
  have hb : IntKind.u64.bits = 64 := rfl
  have hs : IntKind.u64.signed = false := rfl
  simp only [IntKind.wrap, hb, hs]
  simp
  omega
theorem next_ok {code : List Int} (hc : codeB code) {N : Int} (hN : N ≤ 1000000) {c : Cur} (h : okU code N c) : ∃ v c', spec_l1Cur_next c = some (v, c') ∧ okU code (N + 1) c' ∧ 0 ≤ v ∧ v ≤ 255 := by
  obtain ⟨code', pos, mix, u⟩ := c
  obtain ⟨h1, h2, h3⟩ := h
  simp only at h1 h2 h3
  subst h1
  have hw : w64 (pos + 1) = pos + 1 := w64_eq (by omega) (by omega)
  have hlen := hc.1
  unfold spec_l1Cur_next
  have key : ∃ v, (if decide (pos < (code'.length : Int)) = true then
      Option.bind (idx code' pos) fun x4 =>
      some (w64 x4)
    else
      some (0 : Int)) = some v ∧ 0 ≤ v ∧ v ≤ 255 := by
    by_cases hp : pos < (code'.length : Int)
    · simp only [hp, decide_true, if_true]
      rw [idx_int h2 hp]
      have hv := hc.2 _ (List.getElem_mem (show pos.toNat < code'.length by omega))
      exact ⟨_, rfl, by rw [w64_eq (by omega) (by omega)]; exact hv⟩
    · simp only [hp, decide_false, Bool.false_eq_true, if_false]
      exact ⟨0, rfl, by omega, by omega⟩
  obtain ⟨v, k1, k2, k3⟩ := key
  simp only
  rw [k1]
  simp only [Option.bind_some]
  by_cases hq : w64 (pos + 1) ≤ (code'.length : Int)
  · simp only [hq, decide_true, if_true]
    exact ⟨_, _, rfl, ⟨rfl, by simp only [hw]; omega, by simp only [hw]; omega⟩, k2, k3⟩
  · simp only [hq, decide_false, Bool.false_eq_true, if_false]
    have hand : ∀ x : BitVec 64, 0 ≤ w64 (IntKind.wrap .u64 (((x &&& BitVec.ofInt 64 (255 : Int)).toNat : Nat) : Int)) ∧ w64 (IntKind.wrap .u64 (((x &&& BitVec.ofInt 64 (255 : Int)).toNat : Nat) : Int)) ≤ 255 := by
      intro x
      have e : (x &&& BitVec.ofInt 64 (255 : Int)).toNat ≤ 255 := by
        rw [BitVec.toNat_and]
        exact Nat.le_trans Nat.and_le_right (by decide)
      rw [wu64_eq (by omega) (by omega), w64_eq (by omega) (by omega)]
      omega
    exact ⟨_, _, rfl, ⟨rfl, by simp only [hw]; omega, by simp only [hw]; omega⟩, hand _⟩

theorem pick_ok {code : List Int} (hc : codeB code) {N : Int} (hN : N ≤ 900000) {c : Cur} (h : okU code N c) (n : Int) : ∃ r c', spec_l1Cur_pick c n = some (r, c') ∧ okU code (N + 2) c' ∧ 0 ≤ r ∧ (r < n ∨ (n ≤ 1 ∧ r = 0)) := by
  unfold spec_l1Cur_pick
  by_cases h1 : n ≤ 1
  · simp only [h1, decide_true, if_true]
    exact ⟨_, _, rfl, okU_le h (by omega), by omega, .inr ⟨trivial, rfl⟩⟩
  · simp only [h1, decide_false, Bool.false_eq_true, if_false]
    obtain ⟨v, c1, e1, o1, v0, v1⟩ := next_ok hc (by omega) h
    rw [e1]
    simp only [Option.bind_some]
    by_cases h2 : 200 < n
    · simp only [h2, decide_true, if_true]
      obtain ⟨w, c2, e2, o2, w0, w1⟩ := next_ok hc (by omega) o1
      rw [e2]
      simp only [Option.bind_some, need_eq (show n ≠ 0 by omega)]
      rw [w64_eq (x := v * 256) (by omega) (by omega), w64_eq (x := v * 256 + w) (by omega) (by omega), Int.tmod_eq_emod_of_nonneg (by omega)]
      exact ⟨_, _, rfl, okU_le o2 (by omega), Int.emod_nonneg _ (by omega), .inl (Int.emod_lt_of_pos _ (by omega))⟩
    · simp only [h2, decide_false, Bool.false_eq_true, if_false, Option.bind_some, need_eq (show n ≠ 0 by omega)]
      rw [Int.tmod_eq_emod_of_nonneg (by omega)]
      exact ⟨_, _, rfl, okU_le o1 (by omega), Int.emod_nonneg _ (by omega), .inl (Int.emod_lt_of_pos _ (by omega))⟩

theorem among_ok {code : List Int} (hc : codeB code) {N : Int} (hN : N ≤ 900000) {c : Cur} (h : okU code N c) {l : List Int} (hl : 1 ≤ l.length) : ∃ r c', spec_l1Cur_among c l = some (r, c') ∧ okU code (N + 2) c' ∧ r ∈ l := by
  unfold spec_l1Cur_among
  obtain ⟨v, c1, e1, o1, v0, v1⟩ := pick_ok hc hN h (l.length : Int)
  rw [e1]
  simp only [Option.bind_some]
  have hv : v < (l.length : Int) := by omega
  rw [idx_int v0 hv]
  exact ⟨_, _, rfl, o1, List.getElem_mem _⟩
theorem one_ok {code : List Int} (hc : codeB code) {N : Int} (hN : N ≤ 900000) {c : Cur} (h : okU code N c) (n : Int) : ∃ b c', spec_l1Cur_one c n = some (b, c') ∧ okU code (N + 2) c' := by
  unfold spec_l1Cur_one
  obtain ⟨v, c1, e1, o1, v0, v1⟩ := pick_ok hc hN h n
  rw [e1]
  exact ⟨_, _, rfl, o1⟩

theorem names2_ok {code : List Int} (hc : codeB code) {N : Int} (hN : N ≤ 800000) {c : Cur} (h : okU code N c) {n : Int} (h0 : 0 ≤ n) (h9 : n ≤ 20) : ∃ l c', spec_l1Cur_names2 c n = some (l, c') ∧ okU code (N + 100) c' ∧ l.length ≤ 30 := by
  unfold spec_l1Cur_names2
  have hlp := loop_inv (f := (fun s25 : Cur × (List Int) × Int =>
      if decide (s25.2.2 < n) = true then
        Option.bind (spec_l1Cur_pick s25.1 (w64 ((s25.2.1.length : Int) + (1 : Int)))) fun x26 =>
        Option.bind (cut s25.2.1 (0 : Int) x26.1) fun x27 =>
        Option.bind (app ([]) x27) fun x28 =>
        Option.bind (app x28 ([s25.2.2])) fun x29 =>
        Option.bind (cut s25.2.1 x26.1 (s25.2.1.length : Int)) fun x30 =>
        Option.bind (app x29 x30) fun x31 =>
        some (Lp.more (x26.2, (x31, w64 (s25.2.2 + (1 : Int)))))
      else
        some (Lp.done (s25.1, s25.2.1)))) (fun s => okU code (N + 2 * s.2.2) s.1 ∧ 0 ≤ s.2.2 ∧ s.2.2 ≤ n ∧ (s.2.1.length : Int) = s.2.2) (fun s => (n - s.2.2).toNat) (fun z => okU code (N + 2 * n) z.1 ∧ (z.2.length : Int) = n) (fun s hs => ?_) (c, ([], (0 : Int))) ⟨by simpa using h, by simp, by simpa using h0, by simp⟩
  · obtain ⟨z, h1, h2, h3⟩ := hlp
    rw [h1]
    simp only [Option.bind_some]
    obtain ⟨v, c1, e1, o1, v0, v1⟩ := pick_ok hc (by omega) h2 24
    rw [e1]
    simp only [Option.bind_some]
    by_cases hv0 : v = 0
    · subst hv0
      simp only [beq_self_eq_true, if_true]
      rw [app_ok (by simp; omega)]
      exact ⟨_, _, rfl, okU_le o1 (by omega), by simp; omega⟩
    · have hb0 : (v == 0) = false := by simp [hv0]
      simp only [hb0, Bool.false_eq_true, if_false]
      by_cases hv1 : v = 1
      · subst hv1
        simp only [beq_self_eq_true, if_true]
        by_cases hn : 0 < n
        · simp only [hn, decide_true, if_true]
          obtain ⟨w, c2, e2, o2, w0, w1⟩ := pick_ok hc (by omega) o1 n
          rw [e2]
          simp only [Option.bind_some]
          obtain ⟨y, c3, e3, o3, _⟩ := among_ok hc (by omega) o2 (l := [(0 : Int), (-1 : Int), n]) (by simp)
          rw [e3]
          simp only [Option.bind_some]
          rw [idx_int w0 (by omega)]
          exact ⟨_, _, rfl, okU_le o3 (by omega), by simp; omega⟩
        · simp only [hn, decide_false, Bool.false_eq_true, if_false, Option.bind_some]
          exact ⟨_, _, rfl, okU_le o1 (by omega), by omega⟩
      · have hb1 : (v == 1) = false := by simp [hv1]
        simp only [hb1, Bool.false_eq_true, if_false, Option.bind_some]
        exact ⟨_, _, rfl, okU_le o1 (by omega), by omega⟩
  · obtain ⟨cc, l, i⟩ := s
    obtain ⟨s1, s2, s3, s4⟩ := hs
    simp only at s1 s2 s3 s4
    simp only
    by_cases hi : i < n
    · right
      simp only [hi, decide_true, if_true]
      obtain ⟨v, c1, e1, o1, v0, v1⟩ := pick_ok hc (by omega) s1 (w64 ((l.length : Int) + 1))
      rw [e1]
      simp only [Option.bind_some]
      rw [w64_eq (by omega) (by omega)] at v1
      obtain ⟨k, rfl⟩ : ∃ k : Nat, v = (k : Int) := ⟨v.toNat, by omega⟩
      rw [show (0 : Int) = ((0 : Nat) : Int) from rfl, cut_nat (by omega) (by omega)]
      simp only [Option.bind_some]
      rw [app_ok (by simp; omega)]
      simp only [Option.bind_some]
      rw [app_ok (by simp; omega)]
      simp only [Option.bind_some]
      rw [cut_nat (by omega) (by omega)]
      simp only [Option.bind_some]
      rw [app_ok (by simp; omega), w64_eq (x := i + 1) (by omega) (by omega)]
      refine ⟨_, rfl, ⟨okU_le o1 (by simp only; omega), by simp only; omega, by simp only; omega, ?_⟩, by simp only; omega⟩
      simp
      omega
    · left
      simp only [hi, decide_false, Bool.false_eq_true, if_false]
      exact ⟨_, rfl, okU_le s1 (by omega), by simp only; omega⟩

theorem l2Perm_ok {n : Int} {l : List Int} (h0 : 0 ≤ n) (h9 : n ≤ 20) : ∃ b, spec_l2Perm l n = some b ∧ (b = true → namesB n l) := by
  unfold spec_l2Perm
  by_cases hl : (l.length : Int) = n
  · have h1 : ((l.length : Int) != n) = false := by simp [hl]
    simp only [h1, Bool.false_eq_true, if_false]
    have hel : spec_l2Elements n l = some (inS n l) := by
      unfold spec_l2Elements inS
      rw [loop_allL l (z := false) (fun x => decide (0 ≤ x) && decide (x < n)) (by omega) (fun k hk => ?_) (by simp)]
      · cases l.all (fun x => decide (0 ≤ x) && decide (x < n)) <;> rfl
      · have h1 : (k : Int) < (l.length : Int) := by omega
        simp only [h1, decide_true, if_true, idx_nat hk, Option.bind_some]
        rw [l1In_eq, w64_eq (by omega) (by omega)]
        have e : decide (l[k] ≤ n - 1) = decide (l[k] < n) := by rw [Bool.eq_iff_iff]; simp; omega
        rw [e]
        cases (decide (0 ≤ l[k]) && decide (l[k] < n)) <;> simp
    rw [hel]
    cases hin : inS n l
    · exact ⟨false, by simp, by simp⟩
    · simp only [Option.bind_some, Bool.not_true, Bool.false_eq_true, if_false]
      have hr : ∀ x ∈ l, 0 ≤ x ∧ x < n := by
        intro x hx
        unfold inS at hin
        rw [List.all_eq_true] at hin
        simpa using hin x hx
      rw [mkS_int h0 (by omega)]
      simp only [Option.bind_some]
      have hlp := loop_allS (f := (fun s25 : (List Bool) × Int =>
        if decide (s25.2 < n) = true then
          Option.bind (idx l s25.2) fun x26 =>
          Option.bind (idx s25.1 x26) fun x27 =>
          if x27 = true then
            some (Lp.done (Ex.out false))
          else
            Option.bind (idx l s25.2) fun x28 =>
            Option.bind (idx s25.1 x28) fun x29 =>
            some (Lp.more (s25.1.set x28.toNat true, w64 (s25.2 + (1 : Int))))
        else
          some (Lp.done (Ex.fall ())))) (fun k => (seenL n.toNat l k, (k : Int))) l.length (z := false) (fun k => !((l.take k).contains (l.getD k 0))) (fun k hk => ?_) ?_
      · rw [seenL_zero] at hlp
        refine ⟨if (List.range l.length).all (fun k => !((l.take k).contains (l.getD k 0))) then true else false, (congrArg (fun o => Option.bind o _) hlp).trans ?_, fun _ => ⟨hl, hr⟩⟩
        cases (List.range l.length).all (fun k => !((l.take k).contains (l.getD k 0))) <;> rfl
      · have h2 : (k : Int) < n := by omega
        have hx := hr _ (List.getElem_mem hk)
        simp only [h2, decide_true, if_true, idx_nat hk, Option.bind_some, getD_eq hk]
        rw [w64_eq (by omega) (by omega), seenL_get hx.1 (show l[k] < (n.toNat : Int) by omega), seenL_set hk hx.1]
        cases (l.take k).contains l[k] <;> simp
      · have h2 : ¬ (l.length : Int) < n := by omega
        simp only [h2, decide_false, Bool.false_eq_true, if_false]
  · have h1 : ((l.length : Int) != n) = true := by simp [hl]
    simp only [h1, if_true]
    exact ⟨false, rfl, by simp⟩
end Go.Pure
namespace Go.Pure
open Go.Abs

def digB (x : UInt8) : Int := w64 (IntKind.wrap .u8 ((x.toNat : Int) - (48 : Int)))
theorem l2Binary_eq {s : List UInt8} (h : s.length ≤ 1000) : spec_l2Binary s = some (2, (s.map digB, ())) := by
  unfold spec_l2Binary
  rw [loop_foldN s (fun acc x => acc ++ [digB x]) [] (fun b i => (((2 : Int), (b, ())), i)) (fun b => ((2 : Int), (b, ()))) (by omega) (fun k hk b hb => ?_) (fun b hb => ?_)]
  · rw [foldl_append_one, List.nil_append]; rfl
  · have h2 : (k : Int) < (s.length : Int) := by omega
    rw [foldl_append_one, List.nil_append] at hb
    simp only [h2, decide_true, if_true, idx_nat hk, Option.bind_some]
    rw [app_ok (by rw [hb]; simp; omega)]
    rfl
  · simp

def affB (n : Int) (i : Nat) : Int := (w64 ((w64 ((w64 ((w64 ((i : Int).tdiv (w64 (n * n)))) + n)) - ((w64 ((i : Int).tdiv n)).tmod n))) + ((i : Int).tmod n))).tmod n
theorem l2Affine_eq {n : Nat} (h1 : 1 ≤ n) (h8 : n ≤ 8) : spec_l2Affine (n : Int) = some (3, ((List.range (n * n * n)).map (affB n), ())) := by
  unfold spec_l2Affine
  have hnn : n * n ≤ 64 := Nat.mul_le_mul h8 h8
  have hnnn : n * n * n ≤ 512 := Nat.mul_le_mul hnn h8
  have hpos : 1 ≤ n * n := Nat.mul_le_mul h1 h1
  have e2 : w64 ((n : Int) * n) = ((n * n : Nat) : Int) := by rw [← Int.natCast_mul, w64_eq (by omega) (by omega)]
  have e3 : w64 (w64 ((n : Int) * n) * n) = ((n * n * n : Nat) : Int) := by rw [e2, ← Int.natCast_mul, w64_eq (by omega) (by omega)]
  have hlp := loop_nat (f := (fun s25 : (Int × ((List Int) × Unit)) × Int =>
      if decide (s25.2 < (w64 ((w64 ((n : Int) * n)) * n))) = true then
        Option.bind (need (w64 ((n : Int) * n) ≠ 0)) fun _ =>
        Option.bind (need ((n : Int) ≠ 0)) fun _ =>
        Option.bind (need ((n : Int) ≠ 0)) fun _ =>
        Option.bind (need ((n : Int) ≠ 0)) fun _ =>
        Option.bind (need ((n : Int) ≠ 0)) fun _ =>
        Option.bind (app s25.1.2.1 ([(w64 ((w64 ((w64 ((w64 (s25.2.tdiv (w64 ((n : Int) * n)))) + n)) - ((w64 (s25.2.tdiv n)).tmod n))) + (s25.2.tmod n))).tmod n])) fun x31 =>
        some (Lp.more ((s25.1.1, (x31, s25.1.2.2)), w64 (s25.2 + (1 : Int))))
      else
        some (Lp.done s25.1))) (fun j => ((3, ((List.range j).map (affB n), ())), (j : Int))) (n * n * n) (z := (3, ((List.range (n * n * n)).map (affB n), ()))) (fun j hj => ?_) ?_
  · exact congrArg (fun o => Option.bind o some) hlp
  · have h2 : (j : Int) < w64 (w64 ((n : Int) * n) * n) := by rw [e3]; omega
    simp only [h2, decide_true, if_true]
    rw [need_eq (by rw [e2]; omega), need_eq (by omega), need_eq (by omega), need_eq (by omega), need_eq (by omega), app_ok (by simp; omega), w64_eq (x := (j : Int) + 1) (by omega) (by omega)]
    simp only [Option.bind_some, List.range_succ, List.map_append]
    rfl
  · have h2 : ¬ ((n * n * n : Nat) : Int) < w64 (w64 ((n : Int) * n) * n) := by rw [e3]; omega
    simp only [h2, decide_false, Bool.false_eq_true, if_false]

set_option maxRecDepth 8000 in
theorem known_ok (k : Int) : ∃ a, spec_l2Known k = some a ∧ algB a = true := by
  have b := fun (s : List UInt8) (h : s.length ≤ 1000) => l2Binary_eq h
  have a2 := l2Affine_eq (n := 2) (by omega) (by omega)
  have a3 := l2Affine_eq (n := 3) (by omega) (by omega)
  by_cases h : 0 ≤ k ∧ k ≤ 15
  · have hk : k = 0 ∨ k = 1 ∨ k = 2 ∨ k = 3 ∨ k = 4 ∨ k = 5 ∨ k = 6 ∨ k = 7 ∨ k = 8 ∨ k = 9 ∨ k = 10 ∨ k = 11 ∨ k = 12 ∨ k = 13 ∨ k = 14 ∨ k = 15 := by omega
    rcases hk with rfl | rfl | rfl | rfl | rfl | rfl | rfl | rfl | rfl | rfl | rfl | rfl | rfl | rfl | rfl | rfl
    all_goals
      unfold spec_l2Known
      first
      | exact ⟨_, rfl, by decide⟩
      | (rw [show ((2 : Nat) : Int) = (2 : Int) from rfl] at a2
         rw [show ((3 : Nat) : Int) = (3 : Int) from rfl] at a3
         simp only [Int.reduceBEq, beq_self_eq_true, Bool.false_eq_true, if_false, if_true, a2, a3, Option.bind_some]
         try rw [b _ (by decide)]
         try simp only [Option.bind_some]
         try rw [b _ (by decide)]
         try simp only [Option.bind_some]
         exact ⟨_, rfl, by decide⟩)
  · refine ⟨(2, ([], ())), ?_, by decide⟩
    unfold spec_l2Known
    have e : ∀ j : Int, 0 ≤ j → j ≤ 15 → (k == j) = false := fun j h0 h1 => by simp; omega
    simp only [e 0 (by omega) (by omega), e 1 (by omega) (by omega), e 2 (by omega) (by omega), e 3 (by omega) (by omega), e 4 (by omega) (by omega), e 5 (by omega) (by omega), e 6 (by omega) (by omega), e 7 (by omega) (by omega),
      e 8 (by omega) (by omega), e 9 (by omega) (by omega), e 10 (by omega) (by omega), e 11 (by omega) (by omega), e 12 (by omega) (by omega), e 13 (by omega) (by omega), e 14 (by omega) (by omega), e 15 (by omega) (by omega), Bool.false_eq_true, if_false]
end Go.Pure
namespace Go.Pure
open Go.Abs

def tabB (f : Op) : Prop := 1 ≤ f.2.1.length ∧ f.2.1.length ≤ 600

theorem table_loop {code : List Int} (hc : codeB code) {N : Int} (hN : N ≤ 700000) {c : Cur} (h : okU code N c) (n k p : Int) (hp0 : 1 ≤ p) (hp : p ≤ 512) : ∃ z : Cur × Op, loopO (σ := (Cur × Op × Int)) (ρ := (Cur × Op)) (fun s111 =>
              if decide ((0 : Int) < s111.2.2) = true then
                Option.bind (spec_l1Cur_pick s111.1 n) fun x112 =>
                Option.bind (app s111.2.1.2.1 ([x112.1])) fun x113 =>
                some (Lp.more (x112.2, ((s111.2.1.1, (x113, s111.2.1.2.2)), w64 (s111.2.2 - (1 : Int)))))
              else
                some (Lp.done (s111.1, s111.2.1))) (c, ((k, ([], ())), p)) = some z ∧ okU code (N + 1100) z.1 ∧ tabB z.2 := by
  refine loop_inv (fun s : Cur × Op × Int => okU code (N + 2 * (p - s.2.2)) s.1 ∧ 0 ≤ s.2.2 ∧ s.2.2 ≤ p ∧ (s.2.1.2.1.length : Int) = p - s.2.2) (fun s => s.2.2.toNat) _ (fun s hs => ?_) _ ⟨by simpa using h, by simp only; omega, by simp only; omega, by simp⟩
  obtain ⟨cc, op, i⟩ := s
  obtain ⟨s1, s2, s3, s4⟩ := hs
  simp only at s1 s2 s3 s4
  simp only
  by_cases hi : 0 < i
  · right
    simp only [hi, decide_true, if_true]
    obtain ⟨v, c1, e1, o1, v0, v1⟩ := pick_ok hc (by omega) s1 n
    rw [e1]
    simp only [Option.bind_some]
    rw [app_ok (by simp; omega), w64_eq (x := i - 1) (by omega) (by omega)]
    refine ⟨_, rfl, ⟨okU_le o1 (by simp only; omega), by simp only; omega, by simp only; omega, ?_⟩, by simp only; omega⟩
    simp
    omega
  · left
    simp only [hi, decide_false, Bool.false_eq_true, if_false]
    refine ⟨_, rfl, okU_le s1 (by omega), ?_⟩
    unfold tabB
    simp only
    omega

theorem ops_loop {code : List Int} (hc : codeB code) {N : Int} (hN : N ≤ 600000) {c : Cur} (h : okU code N c) (n m : Int) (hn1 : 1 ≤ n) (hn8 : n ≤ 8) (hm0 : 1 ≤ m) (hm : m ≤ 2) : ∃ z : Cur × Al, loopO (σ := (Cur × Al × Int)) (ρ := (Cur × Al)) (fun s90 =>
        if decide ((0 : Int) < s90.2.2) = true then
          Option.bind (spec_l1Cur_among s90.1 ([(0 : Int), (1 : Int), (2 : Int), (2 : Int), (3 : Int)])) fun x91 =>
          Option.bind (α := Bool) (
            if (n == (4 : Int)) = true then
              some (x91.1 == (3 : Int))
            else
              some false)
          (fun s92 =>
          Option.bind (α := (Int × ((List Int) × Unit))) (
            if s92 = true then
              some ((2 : Int), ([], ()))
            else
              some (x91.1, ([], ())))
          (fun s95 =>
          Option.bind (spec_l2Pow n s95.1) fun x98 =>
          Option.bind (α := (((List Int) × (Int × (Int × Unit))) × (Int × ((List Int) × Unit)))) (
            loopO (σ := (((List Int) × (Int × (Int × Unit))) × (Int × ((List Int) × Unit)) × Int)) (ρ := (((List Int) × (Int × (Int × Unit))) × (Int × ((List Int) × Unit)))) (fun s111 =>
              if decide ((0 : Int) < s111.2.2) = true then
                Option.bind (spec_l1Cur_pick s111.1 n) fun x112 =>
                Option.bind (app s111.2.1.2.1 ([x112.1])) fun x113 =>
                some (Lp.more (x112.2, ((s111.2.1.1, (x113, s111.2.1.2.2)), w64 (s111.2.2 - (1 : Int)))))
              else
                some (Lp.done (s111.1, s111.2.1))) (x91.2, (s95, x98)))
          (fun s106 =>
          Option.bind (app s90.2.1.2.1 ([s106.2])) fun x116 =>
          some (Lp.more (s106.1, ((s90.2.1.1, (x116, s90.2.1.2.2)), w64 (s90.2.2 - (1 : Int))))))))
        else
          some (Lp.done (s90.1, s90.2.1))) (c, ((n, ([], ())), m)) = some z ∧ okU code (N + 3000) z.1 ∧ z.2.1 = n ∧ 1 ≤ z.2.2.1.length ∧ z.2.2.1.length ≤ 2 ∧ ∀ f ∈ z.2.2.1, tabB f := by
  refine loop_inv (fun s : Cur × Al × Int => okU code (N + 1200 * (m - s.2.2)) s.1 ∧ 0 ≤ s.2.2 ∧ s.2.2 ≤ m ∧ (s.2.1.2.1.length : Int) = m - s.2.2 ∧ s.2.1.1 = n ∧ ∀ f ∈ s.2.1.2.1, tabB f) (fun s => s.2.2.toNat) _ (fun s hs => ?_) _ ⟨by simpa using h, by simp only; omega, by simp only; omega, by simp, rfl, by simp⟩
  obtain ⟨cc, al, i⟩ := s
  obtain ⟨s1, s2, s3, s4, s5, s6⟩ := hs
  simp only at s1 s2 s3 s4 s5 s6
  simp only
  by_cases hi : 0 < i
  · right
    simp only [hi, decide_true, if_true]
    obtain ⟨v, c1, e1, o1, v1⟩ := among_ok hc (by omega) s1 (l := [(0 : Int), (1 : Int), (2 : Int), (2 : Int), (3 : Int)]) (by simp)
    rw [e1]
    simp only [Option.bind_some]
    have hv : 0 ≤ v ∧ v ≤ 3 := by simp at v1; omega
    have key : ∃ k : Int, 0 ≤ k ∧ k ≤ 3 ∧ (Option.bind (α := Bool) (
            if (n == (4 : Int)) = true then
              some (v == (3 : Int))
            else
              some false)
          (fun s92 =>
            if s92 = true then
              some ((2 : Int), ([], ()))
            else
              some (v, ([], ())))) = some ((k, ([], ())) : Op) := by
      by_cases h4 : n = 4
      · by_cases h3 : v = 3
        · exact ⟨2, by omega, by omega, by simp [h4, h3]⟩
        · exact ⟨v, hv.1, hv.2, by simp [h4, h3]⟩
      · exact ⟨v, hv.1, hv.2, by simp [h4]⟩
    obtain ⟨k, k0, k3, ke⟩ := key
    cases hb : (if (n == (4 : Int)) = true then some (v == (3 : Int)) else some false : Option Bool) with
    | none => rw [hb] at ke; simp at ke
    | some b =>
      rw [hb] at ke
      simp only [Option.bind_some] at ke ⊢
      rw [ke]
      simp only [Option.bind_some]
      have hpw := pow_le hn1 hn8 (k := k.toNat) (by omega)
      rw [show spec_l2Pow n k = impl_power n k from rfl, power_eq hn1 hn8 k0 k3]
      simp only [Option.bind_some]
      obtain ⟨z, z1, z2, z3⟩ := table_loop hc (by omega) o1 n k (n ^ k.toNat) hpw.1 hpw.2
      rw [z1]
      simp only [Option.bind_some]
      rw [app_ok (by simp; omega), w64_eq (x := i - 1) (by omega) (by omega)]
      refine ⟨_, rfl, ⟨okU_le z2 (by simp only; omega), by simp only; omega, by simp only; omega, ?_, s5, ?_⟩, by simp only; omega⟩
      · simp
        omega
      · intro f hf
        rcases List.mem_append.1 hf with hf | hf
        · exact s6 f hf
        · simp only [List.mem_singleton] at hf
          subst hf; exact z3
  · left
    simp only [hi, decide_false, Bool.false_eq_true, if_false]
    exact ⟨_, rfl, okU_le s1 (by omega), s5, by simp only; omega, by simp only; omega, s6⟩

theorem more_loop {code : List Int} (hc : codeB code) {N : Int} (hN : N ≤ 600000) {c : Cur} (h : okU code N c) {al : Al} {n : Int} (hal : al.2.1.length ≤ 2) (hn0 : 0 ≤ n) (hn : n ≤ 9) : ∃ z : Cur × Al, loopO (σ := (Cur × Al)) (ρ := (Cur × Al)) (fun s182 =>
                    Option.bind (spec_l1Cur_pick s182.1 (2 : Int)) fun x183 =>
                    if decide ((s182.2.2.1.length : Int) < (w64 ((4 : Int) + x183.1))) = true then
                      Option.bind (mkS (0 : Int) n) fun x184 =>
                      Option.bind (app s182.2.2.1 ([((1 : Int), (x184, ()))])) fun x185 =>
                      some (Lp.more (x183.2, (s182.2.1, (x185, s182.2.2.2))))
                    else
                      some (Lp.done (x183.2, s182.2))) (c, al) = some z ∧ okU code (N + 20) z.1 ∧ z.2.1 = al.1 := by
  refine loop_inv (fun s : Cur × Al => okU code (N + 2 * (s.2.2.1.length : Int)) s.1 ∧ s.2.2.1.length ≤ 6 ∧ s.2.1 = al.1) (fun s => 6 - s.2.2.1.length) _ (fun s hs => ?_) _ ⟨okU_le h (by simp only; omega), by simp only; omega, rfl⟩
  obtain ⟨cc, bl⟩ := s
  obtain ⟨s1, s2, s3⟩ := hs
  simp only at s1 s2 s3
  simp only
  obtain ⟨v, c1, e1, o1, v0, v1⟩ := pick_ok hc (by omega) s1 2
  rw [e1]
  simp only [Option.bind_some]
  have hw : w64 (4 + v) = 4 + v := w64_eq (by omega) (by omega)
  by_cases hi : (bl.2.1.length : Int) < w64 (4 + v)
  · right
    simp only [hi, decide_true, if_true]
    rw [hw] at hi
    rw [mkS_int hn0 (by omega)]
    simp only [Option.bind_some]
    rw [app_ok (by simp; omega)]
    refine ⟨_, rfl, ⟨okU_le o1 (by simp; omega), by simp; omega, s3⟩, by simp; omega⟩
  · left
    simp only [hi, decide_false, Bool.false_eq_true, if_false]
    exact ⟨_, rfl, okU_le o1 (by omega), s3⟩

theorem algebra_ok {code : List Int} (hc : codeB code) {N : Int} (hN : N ≤ 500000) {c : Cur} (h : okU code N c) : ∃ a c', spec_l1Cur_algebra c = some (a, c') ∧ okU code (N + 5000) c' ∧ 0 ≤ a.1 ∧ a.1 ≤ 9 := by
  unfold spec_l1Cur_algebra
  obtain ⟨b, c1, e1, o1⟩ := one_ok hc (by omega) h 4
  rw [e1]
  simp only [Option.bind_some]
  cases b
  · simp only [Bool.not_false, if_true]
    obtain ⟨v, c2, e2, o2, _, _⟩ := pick_ok hc (by omega) o1 17
    rw [e2]
    simp only [Option.bind_some]
    obtain ⟨a, e3, ha⟩ := known_ok v
    obtain ⟨a1, a8, _, _⟩ := algB_size ha
    rw [e3]
    exact ⟨_, _, rfl, okU_le o2 (by omega), by omega, by omega⟩
  · simp only [Bool.not_true, Bool.false_eq_true, if_false]
    obtain ⟨n, c2, e2, o2, hn⟩ := among_ok hc (by omega) o1 (l := [(2 : Int), (2 : Int), (3 : Int), (3 : Int), (4 : Int)]) (by simp)
    have hn : 2 ≤ n ∧ n ≤ 4 := by simp at hn; omega
    rw [e2]
    simp only [Option.bind_some]
    obtain ⟨m, c3, e3, o3, hm⟩ := among_ok hc (by omega) o2 (l := [(1 : Int), (1 : Int), (2 : Int)]) (by simp)
    have hm : 1 ≤ m ∧ m ≤ 2 := by simp at hm; omega
    rw [e3]
    simp only [Option.bind_some]
    obtain ⟨z, z1, z2, z3, z4, z5, z6⟩ := ops_loop hc (by omega) o3 n m (by omega) (by omega) hm.1 hm.2
    rw [z1]
    simp only [Option.bind_some]
    obtain ⟨v, c4, e4, o4, _, _⟩ := pick_ok hc (by omega) z2 16
    rw [e4]
    simp only [Option.bind_some]
    have h0 := z6 _ (List.getElem_mem (show 0 < z.2.2.1.length by omega))
    unfold tabB at h0
    have hidx : idx z.2.2.1 (0 : Int) = some z.2.2.1[0] := idx_nat (k := 0) (by omega)
    by_cases v0 : v = 0
    · subst v0
      simp only [beq_self_eq_true, if_true]
      obtain ⟨r, c5, e5, o5, hr⟩ := among_ok hc (by omega) o4 (l := [(0 : Int), (9 : Int), w64 (n + 1)]) (by simp)
      rw [w64_eq (by omega) (by omega)] at hr e5 ⊢
      rw [e5]
      have hr : 0 ≤ r ∧ r ≤ 9 := by simp at hr; omega
      exact ⟨_, _, rfl, okU_le o5 (by omega), hr.1, hr.2⟩
    · have b0 : (v == 0) = false := by simp [v0]
      simp only [b0, Bool.false_eq_true, if_false]
      by_cases v1 : v = 1
      · subst v1
        simp only [beq_self_eq_true, if_true, hidx, Option.bind_some]
        rw [app_ok (by simp; omega)]
        exact ⟨_, _, rfl, okU_le o4 (by omega), by simp only; omega, by simp only; omega⟩
      · have b1 : (v == 1) = false := by simp [v1]
        simp only [b1, Bool.false_eq_true, if_false]
        by_cases v2 : v = 2
        · subst v2
          simp only [beq_self_eq_true, if_true, hidx, Option.bind_some]
          obtain ⟨r, c5, e5, o5, r0, r1⟩ := pick_ok hc (by omega) o4 ((z.2.2.1[0]).2.1.length : Int)
          rw [e5]
          simp only [Option.bind_some]
          obtain ⟨y, c6, e6, o6, _⟩ := among_ok hc (by omega) o5 (l := [(-1 : Int), n]) (by simp)
          rw [e6]
          simp only [Option.bind_some]
          rw [idx_int r0 (by omega)]
          exact ⟨_, _, rfl, okU_le o6 (by omega), by simp only; omega, by simp only; omega⟩
        · have b2 : (v == 2) = false := by simp [v2]
          simp only [b2, Bool.false_eq_true, if_false]
          by_cases v3 : v = 3
          · subst v3
            simp only [beq_self_eq_true, if_true]
            obtain ⟨y, c6, e6, o6, _⟩ := among_ok hc (by omega) o4 (l := [(-1 : Int), (4 : Int)]) (by simp)
            rw [e6]
            simp only [hidx, Option.bind_some]
            exact ⟨_, _, rfl, okU_le o6 (by omega), by simp only; omega, by simp only; omega⟩
          · have b3 : (v == 3) = false := by simp [v3]
            simp only [b3, Bool.false_eq_true, if_false]
            by_cases v4 : v = 4
            · subst v4
              simp only [beq_self_eq_true, if_true]
              obtain ⟨w, w1, w2, w3⟩ := more_loop hc (by omega) o4 (al := z.2) (n := n) z5 (by omega) (by omega)
              rw [w1]
              exact ⟨_, _, rfl, okU_le w2 (by omega), by simp only; omega, by simp only; omega⟩
            · have b4 : (v == 4) = false := by simp [v4]
              simp only [b4, Bool.false_eq_true, if_false, Option.bind_some]
              exact ⟨_, _, rfl, okU_le o4 (by omega), by omega, by omega⟩

theorem algebra31_ok {code : List Int} (hc : codeB code) {N : Int} (hN : N ≤ 400000) {c : Cur} (h : okU code N c) : ∃ a c', spec_l1Cur_algebra31 c = some (a, c') ∧ okU code (N + 6000) c' ∧ 0 ≤ a.1 ∧ a.1 ≤ 9 := by
  unfold spec_l1Cur_algebra31
  obtain ⟨b, c1, e1, o1⟩ := one_ok hc (by omega) h 12
  rw [e1]
  simp only [Option.bind_some]
  cases b
  · simp only [Bool.false_eq_true, if_false]
    obtain ⟨k, c2, e2, o2, _⟩ := among_ok hc (by omega) o1 (l := [(0 : Int), (1 : Int), (2 : Int), (3 : Int), (4 : Int), (5 : Int), (7 : Int), (8 : Int), (9 : Int), (10 : Int), (13 : Int), (14 : Int), (16 : Int), (12 : Int), (11 : Int)]) (by simp)
    rw [e2]
    simp only [Option.bind_some]
    obtain ⟨a, e3, ha⟩ := known_ok k
    obtain ⟨a1, a8, _, _⟩ := algB_size ha
    rw [e3]
    simp only [Option.bind_some]
    obtain ⟨l, c3, e4, o3, _⟩ := names2_ok hc (by omega) o2 (n := a.1) (by omega) (by omega)
    rw [e4]
    simp only [Option.bind_some]
    obtain ⟨b, e5, hb⟩ := l2Perm_ok (n := a.1) (l := l) (by omega) (by omega)
    rw [e5]
    simp only [Option.bind_some]
    cases b
    · exact ⟨_, _, rfl, okU_le o3 (by omega), by omega, by omega⟩
    · simp only [if_true]
      rw [l2Rename_eq ha (hb rfl)]
      exact ⟨_, _, rfl, okU_le o3 (by omega), by simp only; omega, by simp only; omega⟩
  · simp only [if_true]
    obtain ⟨a, c2, e2, o2, a0, a9⟩ := algebra_ok hc (by omega) o1
    rw [e2]
    exact ⟨_, _, rfl, okU_le o2 (by omega), a0, a9⟩

theorem draw_ok {code : List Int} (hc : codeB code) : ∃ x, spec_DrawHaveSameForm code = some x := by
  unfold spec_DrawHaveSameForm
  have h : okU code 0 ((code, ((0 : Int), ((0 : Int), ()))) : Cur) := ⟨rfl, by simp, by simp⟩
  obtain ⟨a, c1, e1, o1, a0, a9⟩ := algebra31_ok hc (by omega) h
  rw [e1]
  simp only [Option.bind_some]
  obtain ⟨l, c2, e2, o2, _⟩ := names2_ok hc (by omega) o1 (n := a.1) a0 (by omega)
  rw [e2]
  simp only [Option.bind_some]
  rw [l2Good_eq]
  simp only [Option.bind_some]
  have rest : ∀ c3 : Cur, okU code 7000 c3 → ∃ x, (Option.bind (spec_l1Cur_algebra31 c3) fun x13 => some (a, x13.1)) = some x := by
    intro c3 h3
    obtain ⟨b, c4, e4, _⟩ := algebra31_ok hc (by omega) h3
    rw [e4]
    exact ⟨_, rfl⟩
  cases ha : algB a
  · simp only [Bool.false_eq_true, if_false, Option.bind_some]
    exact rest _ (okU_le o2 (by omega))
  · simp only [if_true]
    obtain ⟨b, e5, hb⟩ := l2Perm_ok (n := a.1) (l := l) a0 (by omega)
    rw [e5]
    simp only [Option.bind_some]
    cases b
    · simp only [Bool.false_eq_true, if_false, Option.bind_some]
      exact rest _ (okU_le o2 (by omega))
    · simp only [if_true]
      obtain ⟨d, c3, e6, o3⟩ := one_ok hc (by omega) o2 2
      rw [e6]
      simp only [Option.bind_some]
      cases d
      · simp only [Bool.false_eq_true, if_false]
        exact rest _ (okU_le o3 (by omega))
      · simp only [if_true]
        rw [l2Rename_eq ha (hb rfl)]
        exact ⟨_, rfl⟩

theorem law_FnCopies (code : List Int) (hb : ∀ n ∈ code, 0 ≤ n ∧ n ≤ 255) : laws_FnCopies code = some true := by
  by_cases hbig : 65536 < (code.length : Int)
  · unfold laws_FnCopies laws_rBig
    simp [hbig]
  · have hr : laws_rBig code = some false := by
      unfold laws_rBig
      rw [decide_eq_false hbig]
    obtain ⟨x, hx⟩ := draw_ok (code := code) ⟨by omega, hb⟩
    exact law_core hr hx
end Go.Pure
