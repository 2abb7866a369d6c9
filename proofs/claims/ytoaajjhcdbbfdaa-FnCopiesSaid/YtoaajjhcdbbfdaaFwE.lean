/- The framework: walks of code that keep plain values. -/
import Derived.Test.YtoaajjhcdbbfdaaFwD
set_option linter.unusedSimpArgs false
set_option linter.unnecessarySimpa false
set_option linter.unusedVariables false
namespace Go.Abs

def disj : List Nat → List Nat → Bool
  | [], _ => true
  | k :: ks, l => match memb k l with | true => false | false => disj ks l

theorem disj_spec : ∀ {ks l : List Nat}, disj ks l = true → ∀ k ∈ ks, k ∉ l
  | [], _, _ => by simp
  | k :: ks, l, h => by
    simp only [disj] at h
    split at h
    · simp at h
    · rename_i hk
      exact fun j hj => by
        rcases List.mem_cons.1 hj with rfl | hj
        · exact memb_false hk
        · exact disj_spec h j hj

def disjAll (ks : List Nat) : List OV → Bool
  | [] => true
  | ov :: ovs => match disj ks ov.rd with | true => disjAll ks ovs | false => false

theorem disjAll_spec {ks : List Nat} : ∀ {ovs : List OV}, disjAll ks ovs = true → ∀ ov ∈ ovs, ∀ k ∈ ks, k ∉ ov.rd
  | [], _ => by simp
  | ov :: ovs, h => by
    simp only [disjAll] at h
    split at h
    · rename_i h1
      exact fun ov' ho => by
        rcases List.mem_cons.1 ho with rfl | ho
        · exact disj_spec h1
        · exact disjAll_spec h ov' ho
    · simp at h

def takes (mv : List Nat) : List OV → Option (List V × List (Nat × Option AX))
  | [] => some ([], [])
  | ov :: ovs => match take mv ov with
    | none => none
    | some (v, up) => match takes mv ovs with
      | none => none
      | some (vs, ups) => match disjAll (keys up) ovs with | true => some (v :: vs, up ++ ups) | false => none

def rds : List OV → List Nat
  | [] => []
  | ov :: ovs => ov.rd ++ rds ovs

theorem mem_purge_of {r : Nat} {all : Bool} : ∀ {l : Env} {kv : Nat × AX}, kv ∈ l → kv.1 ≠ r → isRefTo all r kv.2 = false → kv ∈ purge r all l
  | (k, v) :: l, kv, h, h1, h2 => by
    simp only [purge]
    rcases List.mem_cons.1 h with rfl | h
    · split
      · rename_i hk; exact absurd (Nat.eq_of_beq_eq_true hk) h1
      · split
        · rename_i hr; rw [h2] at hr; exact absurd hr (by simp)
        · exact List.mem_cons_self ..
    · have := mem_purge_of h h1 h2 (all := all)
      split
      · exact this
      · split
        · exact this
        · exact List.mem_cons_of_mem _ this

theorem isRefTo_other {r : Nat} {all : Bool} {v : AX} (h : ∀ r' p, (v = .ref r' p ∨ v = .place r' p) → r' ≠ r) : isRefTo all r v = false := by
  cases v with
  | val t m x => rfl
  | tup vs => rfl
  | gh u t m x => rfl
  | ref r' p =>
    have := h r' p (.inl rfl)
    simp only [isRefTo]
    split
    · rename_i hb; exact absurd (Nat.eq_of_beq_eq_true hb) this
    · rfl
  | place r' p =>
    have := h r' p (.inr rfl)
    simp only [isRefTo]
    cases hb : Nat.beq r' r with
    | true => exact absurd (Nat.eq_of_beq_eq_true hb) this
    | false => rfl

theorem mem_applyUpd : ∀ {up : List (Nat × Option AX)} {l : Env} {kv : Nat × AX}, kv ∈ l → kv.1 ∉ keys up → (∀ r' p, (kv.2 = .ref r' p ∨ kv.2 = .place r' p) → r' ∉ keys up) → kv ∈ applyUpd l up
  | [], _, _, h, _, _ => h
  | (r, o) :: up, l, kv, h, h1, h2 => by
    have hp : ∀ all, kv ∈ purge r all l := fun all => mem_purge_of h (fun e => h1 (by simp [keys, e])) (isRefTo_other fun r' p hv e => h2 r' p hv (by simp [keys, e]))
    have h1' : kv.1 ∉ keys up := fun hk => h1 (by simp only [keys, List.map_cons]; exact List.mem_cons_of_mem _ hk)
    have h2' : ∀ r' p, (kv.2 = .ref r' p ∨ kv.2 = .place r' p) → r' ∉ keys up := fun r' p hv hk => h2 r' p hv (by simp only [keys, List.map_cons]; exact List.mem_cons_of_mem _ hk)
    cases o with
    | none => exact mem_applyUpd (l := purge r true l) (hp true) h1' h2'
    | some ax => exact mem_applyUpd (l := (r, ax) :: purge r false l) (List.mem_cons_of_mem _ (hp false)) h1' h2'

theorem applyUpd_append : ∀ (up ups : List (Nat × Option AX)) (l : Env), applyUpd l (up ++ ups) = applyUpd (applyUpd l up) ups
  | [], _, _ => rfl
  | (_, none) :: up, ups, _ => applyUpd_append up ups _
  | (_, some _) :: up, ups, _ => applyUpd_append up ups _

theorem Seen.upd {l : Env} {o : Operand} {ov : OV} {up : List (Nat × Option AX)} (h : Seen l o ov) (hd : ∀ k ∈ keys up, k ∉ ov.rd) : Seen (applyUpd l up) o ov := by
  cases ov with
  | val k t m x =>
    cases k with
    | none => exact h
    | some k => exact ⟨h.1, mem_applyUpd h.2 (fun hk => hd _ hk (by simp [OV.rd])) (by simp)⟩
  | ref k r p t m x =>
    exact ⟨h.1, mem_applyUpd h.2.1 (fun hk => hd _ hk (by simp [OV.rd])) (fun r' p' hv hk => by simp at hv; obtain ⟨rfl, _⟩ := hv; exact hd _ hk (by simp [OV.rd])),
      mem_applyUpd h.2.2 (fun hk => hd _ hk (by simp [OV.rd])) (by simp)⟩
  | place k r p t m x =>
    exact ⟨h.1, mem_applyUpd h.2.1 (fun hk => hd _ hk (by simp [OV.rd])) (fun r' p' hv hk => by simp at hv; obtain ⟨rfl, _⟩ := hv; exact hd _ hk (by simp [OV.rd])),
      mem_applyUpd h.2.2 (fun hk => hd _ hk (by simp [OV.rd])) (by simp)⟩
  | tup k vs => exact ⟨h.1, mem_applyUpd h.2 (fun hk => hd _ hk (by simp [OV.rd])) (by simp)⟩

theorem keys_take {c : Ctx} {l : Env} {a : Act} {w : World} {lab : Lab} {mv : List Nat} {o : Operand} {ov : OV} {v : V} {up : List (Nat × Option AX)}
    (h : Rel c l a w lab) (hs : Seen l o ov) (ht : take mv ov = some (v, up)) : ∀ k ∈ keys up, k < 1000000 := by
  have lt : ∀ {j : Nat} {t m x}, (j, AX.val t m x) ∈ l → j < 1000000 := fun hj => by
    obtain ⟨u, hu, _⟩ := h.vals _ _ hj
    have := (Array.getElem?_eq_some_iff.1 hu).1
    rw [h.size] at this
    have := c.hn; omega
  cases ov with
  | val k t m x =>
    cases k with
    | none => simp [take] at ht; obtain ⟨rfl, rfl⟩ := ht; simp [keys]
    | some k =>
      simp only [take] at ht
      split at ht <;> (simp at ht; obtain ⟨rfl, rfl⟩ := ht) <;> simp [keys]
      exact lt hs.2
  | ref k r p t m x =>
    simp only [take] at ht
    have hlt := lt hs.2.2
    split at ht
    · split at ht
      · split at ht
        · simp at ht; obtain ⟨rfl, rfl⟩ := ht; simpa [keys] using hlt
        · split at ht <;> (simp at ht; obtain ⟨rfl, rfl⟩ := ht; simpa [keys] using hlt)
      · simp at ht; obtain ⟨rfl, rfl⟩ := ht; simpa [keys] using hlt
    · simp at ht
  | place k r p t m x => simp [take] at ht
  | tup k vs => simp [take] at ht

def SeenAll (l : Env) : List Operand → List OV → Prop
  | [], [] => True
  | o :: os, ov :: ovs => Seen l o ov ∧ SeenAll l os ovs
  | _, _ => False

theorem SeenAll.upd {l : Env} {up : List (Nat × Option AX)} : ∀ {os : List Operand} {ovs : List OV}, SeenAll l os ovs → (∀ ov ∈ ovs, ∀ k ∈ keys up, k ∉ ov.rd) → SeenAll (applyUpd l up) os ovs
  | [], [], _, _ => trivial
  | _ :: _, ov :: _, h, hd => ⟨h.1.upd (hd ov (List.mem_cons_self ..)), h.2.upd fun ov ho => hd ov (List.mem_cons_of_mem _ ho)⟩
  | [], _ :: _, h, _ => h.elim
  | _ :: _, [], h, _ => h.elim

theorem takes_sound {c : Ctx} {a : Act} {w : World} {mv : List Nat} : ∀ {os : List Operand} {ovs : List OV} {vs : List V} {up : List (Nat × Option AX)} {l : Env} {lab : Lab} (i : Nat), 1000000 ≤ i →
    Rel c l a w lab → SeenAll l os ovs → takes mv ovs = some (vs, up) →
    ∃ lab', Rel c (applyUpd l up) a w lab' ∧ (∀ k ∈ keys up, k < 1000000) ∧ vs.length = os.length ∧ (∀ j (h : j < vs.length) (h' : j < os.length), repV lab' w vs[j].t vs[j].m vs[j].x (a.eval os[j]) (i + j) []) ∧
      (∀ b, b < w.heap.size → lab b = none → lab' b = none) ∧ (∀ k, k ∉ keys up → (k < i ∨ i + os.length ≤ k) → Keeps lab lab' w w k) := by
  intro os
  induction os with
  | nil =>
    intro ovs vs up l lab i hi h hs ht
    cases ovs with
    | cons ov ovs => exact hs.elim
    | nil =>
    simp only [takes, Option.some.injEq, Prod.mk.injEq] at ht
    obtain ⟨rfl, rfl⟩ := ht
    exact ⟨lab, h, by simp [keys], rfl, by simp, fun _ _ h => h, fun k _ _ => Keeps.refl lab w k⟩
  | cons o os ih =>
    intro ovs vs up l lab i hi h hs ht
    cases ovs with
    | nil => exact hs.elim
    | cons ov ovs =>
    obtain ⟨hs1, hs2⟩ := hs
    simp only [takes] at ht
    split at ht
    · simp at ht
    rename_i v up1 ht1
    split at ht
    · simp at ht
    rename_i vs ups ht2
    split at ht
    case h_2 => simp at ht
    rename_i hdj
    simp only [Option.some.injEq, Prod.mk.injEq] at ht
    obtain ⟨rfl, rfl⟩ := ht
    obtain ⟨lab1, hR1, hv1, hg1⟩ := take_sound i h hs1 ht1
    have hk1 := keys_take h hs1 ht1
    obtain ⟨lab2, hR2, hk2, hlen, hv2, hsh2, hg2⟩ := ih (i + 1) (by omega) hR1 (hs2.upd (disjAll_spec hdj)) ht2
    refine ⟨lab2, by rw [applyUpd_append]; exact hR2, fun k hk => ?_, by simp [hlen], ?_, fun b hb hl => hsh2 b hb (hg1.shr b hb hl), fun k hk hki => ?_⟩
    · simp only [keys, List.map_append, List.mem_append] at hk
      exact hk.elim (hk1 k) (hk2 k)
    · intro j hj hj'
      cases j with
      | zero =>
        refine repV_keep hv1 (hg2 i (fun hk => by have := hk2 _ hk; omega) (.inl (by omega)))
      | succ j =>
        simp only [List.getElem_cons_succ]
        have := hv2 j (by simpa using hj) (by simpa using hj')
        rwa [show i + 1 + j = i + (j + 1) by omega] at this
    · simp only [keys, List.map_append, List.mem_append, not_or] at hk
      refine Keeps.trans (hg1.keep k ?_) (hg2 k hk.2 (by simp at hki ⊢; omega)) (Nat.le_refl _)
      simp only [List.mem_cons, not_or]
      exact ⟨by simp at hki; omega, hk.1⟩

end Go.Abs
