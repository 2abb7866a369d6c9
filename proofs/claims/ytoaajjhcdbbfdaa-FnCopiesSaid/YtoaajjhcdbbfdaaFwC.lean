/- The framework: walks of code that keep plain values. -/
import Derived.Test.YtoaajjhcdbbfdaaFwB
set_option linter.unusedSimpArgs false
set_option linter.unnecessarySimpa false
set_option linter.unusedVariables false
namespace Go.Abs

theorem rootOf_ne {k r : Nat} {v : AX} (hk : k ≠ r) (h : isRefTo true r v = false) : rootOf k v ≠ r := by
  cases v with
  | val t m x => exact hk
  | tup vs => exact hk
  | gh u t m x => exact hk
  | ref r' p =>
    simp only [isRefTo] at h
    split at h
    · simp at h
    · rename_i h'; exact Nat.ne_of_beq_eq_false h'
  | place r' p => exact Nat.ne_of_beq_eq_false h

theorem isRefTo_le {r : Nat} {v : AX} (h : isRefTo true r v = false) : isRefTo false r v = false := by
  cases v with
  | ref r' p =>
    simp only [isRefTo] at h ⊢
    split at h <;> simp_all
  | _ => exact h

/-- All roots of a list purged. -/
def purgeAll : List Nat → Env → Env
  | [], l => l
  | r :: rs, l => purgeAll rs (purge r true l)

theorem mem_purgeAll : ∀ {rs : List Nat} {l : Env} {kv : Nat × AX}, kv ∈ purgeAll rs l → kv ∈ l ∧ ∀ r ∈ rs, kv.1 ≠ r ∧ isRefTo true r kv.2 = false
  | [], _, _, h => ⟨h, by simp⟩
  | r :: rs, l, kv, h => by
    obtain ⟨h1, h2⟩ := mem_purgeAll (rs := rs) h
    obtain ⟨h3, h4⟩ := mem_purge h1
    exact ⟨h3, fun r' hr' => by rcases List.mem_cons.1 hr' with rfl | hr'; exact h4; exact h2 r' hr'⟩

theorem purge_sub {r : Nat} {all : Bool} {l : Env} : ∀ kv ∈ purge r all l, kv ∈ l := fun _ h => (mem_purge h).1
theorem purgeAll_sub {rs : List Nat} {l : Env} : ∀ kv ∈ purgeAll rs l, kv ∈ l := fun _ h => (mem_purgeAll h).1

theorem Rel.hid_next {c : Ctx} {l : Env} {a : Act} {w w' : World} {lab lab' : Lab} (h : Rel c l a w lab) (hk : Keeps lab lab' w w' hidden) :
    ∀ b q, b < c.W0.heap.size → c.lab0 b = some (hidden, q) → lab' b = some (hidden, q) ∧ w'.heap[b]? = c.W0.heap[b]? := fun b q hb hl => by
  obtain ⟨h1, h2⟩ := h.hid b q hb hl
  obtain ⟨h3, h4⟩ := hk.own b q (Nat.lt_of_lt_of_le hb h.fr.size) (by simpa using h1)
  exact ⟨by simpa [lessThan] using h3, h4.trans h2⟩

theorem Rel.not_hidden {c : Ctx} {l : Env} {a : Act} {w : World} {lab : Lab} (h : Rel c l a w lab) {k : Nat} (hk : k < c.n) : hidden ∉ [k] := by
  have := c.hn
  simp only [List.mem_singleton]
  unfold hidden
  omega

theorem Rel.lt {c : Ctx} {l : Env} {a : Act} {w : World} {lab : Lab} (h : Rel c l a w lab) {k : Nat} {u : Value} (hu : a.tmps[k]? = some u) : k < c.n := by
  have := (Array.getElem?_eq_some_iff.1 hu).1
  rwa [h.size] at this

/-- A change of machine and labels in which all roots but some keep what they own. -/
theorem Rel.change {c : Ctx} {l : Env} {a a' : Act} {w w' : World} {lab lab' : Lab} (rs : List Nat) (hrs : hidden ∉ rs) (h : Rel c l a w lab)
    (hd : a'.defers = []) (hsz : a'.tmps.size = a.tmps.size) (hfix : ∀ k u, (k, u) ∈ c.fix → a'.tmps[k]? = a.tmps[k]?)
    (ht : ∀ k, k ∉ rs → a'.tmps[k]? = a.tmps[k]?) (hfr : Fr c.W0 c.lab0 w' lab') (hk : ∀ k, k ∉ rs → k < 1000000 → Keeps lab lab' w w' k) : Rel c (purgeAll rs l) a' w' lab' := by
  refine ⟨hd, hsz.trans h.size, fun k u hm => by rw [hfix k u hm]; exact h.fix k u hm, hfr, h.hid_next (hk hidden hrs (by unfold hidden; omega)), fun k v v' h1 h2 => h.uniq k v v' (purgeAll_sub _ h1) (purgeAll_sub _ h2), fun k v hm => ?_⟩
  obtain ⟨hm, hne⟩ := mem_purgeAll hm
  have h1 : k ∉ rs := fun hk => (hne k hk).1 rfl
  have h2 : rootOf k v ∉ rs := fun hr => rootOf_ne (hne _ hr).1 (hne _ hr).2 rfl
  exact holds_keep (h.vals k v hm) (ht k h1) (ht _ h2) (fun t m x hx => purgeAll_sub _ hx) (fun t m x hx => h.vals _ _ hx) (by rw [h.size]; have := c.hn; omega) (hk _ h2)

/-- Frames are carried on. -/
theorem Fr.next {W0 : World} {lab0 lab lab' : Lab} {w w' : World} (h : Fr W0 lab0 w lab) (ho : w'.os = w.os) (ht : w'.tape = w.tape) (hp : w'.output = w.output)
    (hs : w.heap.size ≤ w'.heap.size) (hb : ∀ b, b < w.heap.size → lab b = none → lab' b = none ∧ w'.heap[b]? = w.heap[b]?) : Fr W0 lab0 w' lab' :=
  ⟨ho.trans h.os, ht.trans h.tape, hp.trans h.output, Nat.le_trans h.size hs, fun b hb0 hl =>
    let ⟨h1, h2⟩ := h.old b hb0 hl
    let ⟨h3, h4⟩ := hb b (Nat.lt_of_lt_of_le hb0 h.size) h1
    ⟨h3, h4.trans h2⟩⟩

/-- One entry more. -/
theorem Rel.add {c : Ctx} {l : Env} {a : Act} {w : World} {lab : Lab} {k : Nat} {v : AX} (h : Rel c l a w lab) (hnew : ∀ u, (k, u) ∉ l) (hv : holds ((k, v) :: l) lab w a k v)
    (hr : ∀ j u, (j, u) ∈ l → isRefTo true k u = false ∨ holds ((k, v) :: l) lab w a j u) : Rel c ((k, v) :: l) a w lab := by
  refine ⟨h.defers, h.size, h.fix, h.fr, h.hid, fun j u u' h1 h2 => ?_, fun j u hm => ?_⟩
  · rcases List.mem_cons.1 h1 with e1 | h1 <;> rcases List.mem_cons.1 h2 with e2 | h2
    · exact (Prod.mk.inj e1).2.trans (Prod.mk.inj e2).2.symm
    · exact absurd ((Prod.mk.inj e1).1 ▸ h2) (hnew _)
    · exact absurd ((Prod.mk.inj e2).1 ▸ h1) (hnew _)
    · exact h.uniq j u u' h1 h2
  rcases List.mem_cons.1 hm with he | hm
  · obtain ⟨rfl, rfl⟩ := Prod.mk.inj he; exact hv
  · rcases hr j u hm with h2 | h2
    case inr => exact h2
    have hh := h.vals j u hm
    cases u with
    | val t m x => exact hh
    | tup vs => exact hh
    | gh u t m x => exact hh
    | ref r p =>
      intro t m x hx
      rcases List.mem_cons.1 hx with he | hx
      · obtain ⟨rfl, _⟩ := Prod.mk.inj he
        simp only [isRefTo] at h2
        rw [show Nat.beq r r = true from Nat.beq_refl r] at h2
        simp at h2
      · exact hh t m x hx
    | place r p =>
      intro t m x hx
      rcases List.mem_cons.1 hx with he | hx
      · obtain ⟨rfl, _⟩ := Prod.mk.inj he
        simp only [isRefTo] at h2
        rw [show Nat.beq r r = true from Nat.beq_refl r] at h2
        simp at h2
      · exact hh t m x hx

/-- A root's datum said anew (another depth of ownership, another content): the bare references to it stand. -/
theorem Rel.put {c : Ctx} {l : Env} {a a' : Act} {w w' : World} {lab lab' : Lab} {r : Nat} {t : Ty} {m : Nat} {x : den t} {t' : Ty} {m' : Nat} {x' : den t'} {u : Value} (h : Rel c l a w lab)
    (hl : (r, AX.val t m x) ∈ l) (hu : a.tmps[r]? = some u) (hrep : repV lab' w' t' m' x' u r [])
    (hd : a'.defers = []) (hsz : a'.tmps.size = a.tmps.size) (ht : ∀ k : Nat, a'.tmps[k]? = a.tmps[k]?)
    (hfr : Fr c.W0 c.lab0 w' lab') (hk : ∀ k, k ≠ r → k < 1000000 → Keeps lab lab' w w' k) : Rel c ((r, .val t' m' x') :: purge r false l) a' w' lab' := by
  have hrne : hidden ≠ r := fun e => by
    have := (Array.getElem?_eq_some_iff.1 hu).1
    rw [h.size, ← e] at this
    have := c.hn
    unfold hidden at *
    omega
  refine ⟨hd, hsz.trans h.size, fun k u hm => by rw [ht]; exact h.fix k u hm, hfr, h.hid_next (hk hidden hrne (by unfold hidden; omega)), fun j u u' h1 h2 => ?_, fun k v hm => ?_⟩
  · rcases List.mem_cons.1 h1 with e1 | h1 <;> rcases List.mem_cons.1 h2 with e2 | h2
    · exact (Prod.mk.inj e1).2.trans (Prod.mk.inj e2).2.symm
    · exact absurd (Prod.mk.inj e1).1 (mem_purge h2).2.1
    · exact absurd (Prod.mk.inj e2).1 (mem_purge h1).2.1
    · exact h.uniq j u u' (purge_sub _ h1) (purge_sub _ h2)
  rcases List.mem_cons.1 hm with he | hm
  · obtain ⟨rfl, rfl⟩ := Prod.mk.inj he
    exact ⟨u, by rw [ht]; exact hu, hrep⟩
  · obtain ⟨hm1, hne, href⟩ := mem_purge hm
    simp only at hne href
    by_cases hroot : isRefTo true r v = true
    · -- the bare reference
      cases v with
      | val t m x => simp [isRefTo] at hroot
      | tup vs => simp [isRefTo] at hroot
      | gh u t m x => simp [isRefTo] at hroot
      | place r' p => simp only [isRefTo] at hroot href; rw [hroot] at href; exact absurd href (by simp)
      | ref r' p =>
        have hrr : r' = r := by
          simp only [isRefTo] at hroot
          split at hroot
          · rename_i h'; exact Nat.eq_of_beq_eq_true h'
          · simp at hroot
        subst hrr
        simp only [isRefTo] at href
        rw [show Nat.beq r' r' = true from Nat.beq_refl r'] at href
        cases p with
        | cons s p => simp at href
        | nil =>
          obtain ⟨u0, t0, us0, A0, h1, h2, h3⟩ := h.vals k _ hm1 t m x hl
          rw [hu] at h1
          obtain rfl := Option.some.inj h1
          simp only [nav, Option.some.injEq, Prod.mk.injEq] at h2
          obtain ⟨rfl, rfl, rfl⟩ := h2
          obtain ⟨u1, h4, h5⟩ := h.vals _ _ hl
          rw [hu] at h4
          obtain rfl := Option.some.inj h4
          rw [mkV_cellsOf h5.shape] at h3
          intro t1 m1 x1 hx1
          rcases List.mem_cons.1 hx1 with he | hx1
          · obtain ⟨_, he⟩ := Prod.mk.inj he
            injection he with he _ _
            subst he
            exact ⟨u, _, _, none, by rw [ht]; exact hu, rfl, by rw [ht, mkV_cellsOf hrep.shape]; exact h3⟩
          · exact absurd rfl (mem_purge hx1).2.1
    · have hroot : isRefTo true r v = false := by simpa using hroot
      have h2 : rootOf k v ≠ r := rootOf_ne hne hroot
      refine holds_keep (h.vals k v hm1) (ht k) (ht _) (fun t1 m1 x1 hx1 => ?_) (fun t m x hx => h.vals _ _ hx) (by rw [h.size]; have := c.hn; omega) (hk _ h2)
      rcases List.mem_cons.1 hx1 with he | hx1
      · exact absurd (Prod.mk.inj he).1 h2
      · exact purge_sub _ hx1

end Go.Abs
