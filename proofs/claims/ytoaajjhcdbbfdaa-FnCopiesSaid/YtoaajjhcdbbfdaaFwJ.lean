/- The framework: walks of code that keep plain values. -/
import Derived.Test.YtoaajjhcdbbfdaaFwI
set_option linter.unusedSimpArgs false
set_option linter.unnecessarySimpa false
set_option linter.unusedVariables false
namespace Go.Abs

def repl : (p : Path) → (t : Ty) → den t → (s : Ty) → den s → Option ((t2 : Ty) × den t2)
  | [], _, _, s, y => some ⟨s, y⟩
  | .l :: p, .prod a b, x, s, y => match repl p a x.1 s y with | some ⟨a2, z⟩ => some ⟨.prod a2 b, (z, x.2)⟩ | none => none
  | .r :: p, .prod a b, x, s, y => match repl p b x.2 s y with | some ⟨b2, z⟩ => some ⟨.prod a b2, (x.1, z)⟩ | none => none
  | .d :: p, .ptr t, x, s, y => match repl p t x s y with | some ⟨t2, z⟩ => some ⟨.ptr t2, z⟩ | none => none
  | .e i :: p, .slc t, xs, s, y => match xs[i]? with
    | some x => match repl p t x s y with
      | some ⟨t2, z⟩ => match decEq t2 t with | .isTrue h => some ⟨.slc t, xs.set i (h ▸ z)⟩ | .isFalse _ => none
      | none => none
    | none => none
  | _, _, _, _, _ => none

theorem nav_block {w : World} : ∀ {q : Path} {t : Ty} {us : List Value} {A : Option Addr} {t' : Ty} {us' : List Value} {A' : Addr}, dep q = 0 → nav w q t us A = some (t', us', some A') →
    ∃ A0, A = some A0 ∧ A'.block = A0.block ∧ A0.off ≤ A'.off ∧ A'.off + t'.cells ≤ A0.off + t.cells := by
  intro q
  induction q with
  | nil =>
    intro t us A t' us' A' _ h
    simp only [nav, Option.some.injEq, Prod.mk.injEq] at h
    obtain ⟨rfl, rfl, rfl⟩ := h
    exact ⟨A', rfl, rfl, Nat.le_refl _, Nat.le_refl _⟩
  | cons s q ih =>
    intro t us A t' us' A' hd h
    cases s with
    | l =>
      cases t with
      | prod a b =>
        obtain ⟨A0, h1, h2, h3, h4⟩ := ih (by simpa [dep] using hd) h
        exact ⟨A0, h1, h2, h3, by simp only [Ty.cells]; omega⟩
      | _ => simp [nav] at h
    | r =>
      cases t with
      | prod a b =>
        obtain ⟨A0, h1, h2, h3, h4⟩ := ih (by simpa [dep] using hd) h
        cases A with
        | none => simp at h1
        | some A1 =>
          simp only [Option.map, Option.some.injEq] at h1
          subst h1
          exact ⟨A1, rfl, h2, by simp only at h3; omega, by simp only [Ty.cells] at h4 ⊢; omega⟩
      | _ => simp [nav] at h
    | e i => simp [dep] at hd
    | d => simp [dep] at hd

theorem nav_label {lab : Lab} {w : World} : ∀ {q : Path} {t : Ty} {m : Nat} {x : den t} {us : List Value} {r : Nat} {p : Path} {A : Option Addr} {t' : Ty} {us' : List Value} {A' : Addr},
    rep lab w t m x us r p → nav w q t us A = some (t', us', some A') → 0 < dep q → dep q ≤ m → ∃ q1 q2, q = q1 ++ q2 ∧ 0 < q2.length ∧ lab A'.block = some (r, p ++ q1) ∧ ∃ cur e, w.heap[A'.block]? = some (.cells cur e (0, 0)) := by
  intro q
  induction q with
  | nil => intro t m x us r p A t' us' A' _ _ h; simp [dep] at h
  | cons s q ih =>
    intro t m x us r p A t' us' A' h hn h0 hm
    have lift : ∀ {q1 q2 : Path}, q = q1 ++ q2 → lab A'.block = some (r, (p ++ [s]) ++ q1) → s :: q = (s :: q1) ++ q2 ∧ lab A'.block = some (r, p ++ (s :: q1)) := fun h1 h2 => ⟨by simp [h1], by simpa using h2⟩
    cases s with
    | l =>
      cases t with
      | prod a b =>
        simp only [rep] at h
        obtain ⟨u1, u2, rfl, h1, h2, h3⟩ := h
        simp only [nav] at hn
        rw [← h1, List.take_left] at hn
        obtain ⟨q1, q2, e1, e2, e3, e4⟩ := ih h2 hn (by simpa [dep] using h0) (by simpa [dep] using hm)
        exact ⟨_, q2, (lift e1 e3).1, e2, (lift e1 e3).2, e4⟩
      | _ => simp [nav] at hn
    | r =>
      cases t with
      | prod a b =>
        simp only [rep] at h
        obtain ⟨u1, u2, rfl, h1, h2, h3⟩ := h
        simp only [nav] at hn
        rw [← h1, List.drop_left] at hn
        obtain ⟨q1, q2, e1, e2, e3, e4⟩ := ih h3 hn (by simpa [dep] using h0) (by simpa [dep] using hm)
        exact ⟨_, q2, (lift e1 e3).1, e2, (lift e1 e3).2, e4⟩
      | _ => simp [nav] at hn
    | e i =>
      cases t with
      | slc t =>
        simp only [rep] at h
        obtain ⟨base, cap, rfl, hc, hmx, h⟩ := h
        rcases h with ⟨rfl, rfl, rfl⟩ | ⟨g, off, cur, e, fz, rfl, hg, hsz, hown, hr⟩
        · simp [nav] at hn
        · simp only [nav, hg] at hn
          split at hn
          · rename_i hlt
            by_cases hq : dep q = 0
            · obtain ⟨A0, e1, e2, _⟩ := nav_block hq hn
              simp only [Option.some.injEq] at e1
              subst e1
              simp only at e2
              rcases hown with ⟨e3, _⟩ | ⟨_, e3, _, rfl, _⟩
              · subst e3; simp [dep] at hm
              · exact ⟨[], .e i :: q, rfl, by simp, by rw [e2]; simpa using e3, cur, e, by rw [e2]; exact hg⟩
            · obtain ⟨q1, q2, e1, e2, e3, e4⟩ := ih (hr i hlt) hn (by omega) (by simp [dep] at hm; omega)
              exact ⟨_, q2, (lift e1 e3).1, e2, (lift e1 e3).2, e4⟩
          · simp at hn
      | _ => simp [nav] at hn
    | d =>
      cases t with
      | ptr t =>
        simp only [rep] at h
        obtain ⟨g, off, cur, e, fz, rfl, hg, hsz, hown, hr⟩ := h
        simp only [nav, hg] at hn
        by_cases hq : dep q = 0
        · obtain ⟨A0, e1, e2, _⟩ := nav_block hq hn
          simp only [Option.some.injEq] at e1
          subst e1
          simp only at e2
          rcases hown with ⟨e3, _⟩ | ⟨_, e3, _, rfl, _⟩
          · subst e3; simp [dep] at hm
          · exact ⟨[], .d :: q, rfl, by simp, by rw [e2]; simpa using e3, cur, e, by rw [e2]; exact hg⟩
        · obtain ⟨q1, q2, e1, e2, e3, e4⟩ := ih hr hn (by omega) (by simp [dep] at hm; omega)
          exact ⟨_, q2, (lift e1 e3).1, e2, (lift e1 e3).2, e4⟩
      | _ => simp [nav] at hn

theorem cellsAt_split {cur : Array Value} {o a b : Nat} : cellsAt cur o (a + b) = cellsAt cur o a ++ cellsAt cur (o + a) b := by
  simp only [cellsAt, ← List.drop_drop]
  rw [List.take_add]

theorem cellsAt_splice_out {cur cur' : Array Value} {o : Nat} {vs : List Value} (h : cur'.toList = splice cur.toList o vs) (hs : o + vs.length ≤ cur.size) {i n : Nat} (hd : i + n ≤ o ∨ o + vs.length ≤ i) : cellsAt cur' i n = cellsAt cur i n := by
  apply List.ext_getElem?
  intro j
  simp only [cellsAt, h, splice, List.getElem?_take, List.getElem?_drop]
  split
  · rename_i hj
    have hl : (cur.toList.take o).length = o := by simp; omega
    rcases hd with hd | hd
    · rw [List.append_assoc, List.getElem?_append_left (by omega), List.getElem?_take, if_pos (by omega)]
    · rw [List.getElem?_append_right (by simp; omega), List.getElem?_drop]
      congr 1
      simp; omega
  · rfl

theorem cellsAt_splice_in {cur cur' : Array Value} {o : Nat} {vs : List Value} (h : cur'.toList = splice cur.toList o vs) (hs : o + vs.length ≤ cur.size) : cellsAt cur' o vs.length = vs := by
  have hl : (cur.toList.take o).length = o := by simp; omega
  simp only [cellsAt, h, splice]
  rw [List.append_assoc, List.drop_append, hl, List.drop_of_length_le (by omega)]
  simp

/-- The cells of a place behind the write. -/
def newCells (g : Nat) (cur' : Array Value) (n : Nat) (us : List Value) : Option Addr → List Value
  | none => us
  | some A => if A.block = g then cellsAt cur' A.off n else us

theorem splice_size {cur cur' : Array Value} {o : Nat} {vs : List Value} (h : cur'.toList = splice cur.toList o vs) (hs : o + vs.length ≤ cur.size) : cur'.size = cur.size := by
  have := congrArg List.length h
  simp [splice] at this
  omega

theorem rep_store {lab lab' : Lab} {w w' : World} {g o : Nat} {cur cur' : Array Value} {e : TypeId} {vs : List Value} {pg : Path} {r : Nat} (hg : w.heap[g]? = some (.cells cur e (0, 0))) (hg' : w'.heap[g]? = some (.cells cur' e (0, 0)))
    (hcur : cur'.toList = splice cur.toList o vs) (hfit : o + vs.length ≤ cur.size) (hw : ∀ b, b < w.heap.size → b ≠ g → w'.heap[b]? = w.heap[b]?) (hpg : lab g = some (r, pg))
    (hshr : ∀ b, b < w.heap.size → lab b = none → lab' b = none) (hown : ∀ b q, b < w.heap.size → lab b = some (r, q) → lab' b = some (r, q)) {s : Ty} {y : den s} (hvs : vs.length = s.cells) :
    ∀ {q : Path} {t : Ty} {m : Nat} {x : den t} {us : List Value} {p : Path} {A : Option Addr} {t' : Ty} {us' : List Value} {t2 : Ty} {x2 : den t2},
      rep lab w t m x us r p → InMem w t us A → nav w q t us A = some (t', us', some ⟨g, o, none⟩) → repl q t x s y = some ⟨t2, x2⟩ → s.cells = t'.cells → dep q ≤ m → pg <+: p ++ q →
      (∀ A0, A = some A0 → 0 < dep q → A0.block ≠ g) → rep lab' w' s (m - dep q) y vs r (p ++ q) → t2.cells = t.cells ∧ rep lab' w' t2 m x2 (newCells g cur' t.cells us A) r p := by
  have frame : ∀ (st : Step) (q : Path) (p : Path) (st' : Step), pg <+: p ++ st :: q → st ≠ st' → Xfer lab lab' w w' r (p ++ [st']) r (p ++ [st']) none := by
    intro st q p st' hpre hne
    refine ⟨fun b hb hl => ⟨hshr b hb hl, hw b hb fun e => by subst e; rw [hpg] at hl; simp at hl⟩, fun b q' hb hl => ⟨by simpa [lessThan] using hown b _ hb hl, hw b hb fun e => ?_⟩⟩
    subst e
    rw [hpg] at hl
    simp only [Option.some.injEq, Prod.mk.injEq, true_and] at hl
    subst hl
    obtain ⟨z, hz⟩ := hpre
    simp only [List.append_assoc, List.append_cancel_left_eq, List.cons_append, List.nil_append, List.cons.injEq] at hz
    exact hne hz.1.symm
  have keepM : ∀ {k : Nat}, cutTo none k = k := fun {k} => rfl
  intro q
  induction q with
  | nil =>
    intro t m x us p A t' us' t2 x2 h hi hn hrp hsc hm hpre hA hv
    simp only [nav, Option.some.injEq, Prod.mk.injEq] at hn
    obtain ⟨rfl, rfl, rfl⟩ := hn
    simp only [repl, Option.some.injEq, Sigma.mk.injEq] at hrp
    obtain ⟨rfl, hrp⟩ := hrp
    have hrp := eq_of_heq hrp
    subst hrp
    refine ⟨hsc, ?_⟩
    simp only [newCells, if_true]
    rw [← hsc, ← hvs, cellsAt_splice_in hcur hfit]
    simpa [dep] using hv
  | cons st q ih =>
    intro t m x us p A t' us' t2 x2 h hi hn hrp hsc hm hpre hA hv
    have hpre' : pg <+: (p ++ [st]) ++ q := by simpa using hpre
    have hv' : rep lab' w' s (m - dep (st :: q)) y vs r ((p ++ [st]) ++ q) := by simpa using hv
    cases st with
    | l =>
      cases t with
      | prod a b =>
        simp only [rep] at h
        obtain ⟨u1, u2, rfl, h1, h2, h3⟩ := h
        simp only [nav] at hn
        rw [← h1, List.take_left] at hn
        simp only [repl] at hrp
        split at hrp
        case h_2 => simp at hrp
        rename_i a2 z hz
        simp only [Option.some.injEq, Sigma.mk.injEq] at hrp
        obtain ⟨rfl, hrp⟩ := hrp
        have hrp := eq_of_heq hrp
        subst hrp
        have hi1 : InMem w a u1 A := by
          cases A with
          | none => trivial
          | some A0 =>
            obtain ⟨k1, cc, ce, cf, k2, k3, k4⟩ := hi
            simp only [Ty.cells] at k3 k4
            exact ⟨k1, cc, ce, cf, k2, by omega, by rw [← cellsAt_take (n := a.cells + b.cells) (by omega), ← k4, ← h1, List.take_left]⟩
        obtain ⟨hc2, hr2⟩ := ih h2 hi1 hn hz hsc (by simpa [dep] using hm) hpre' (fun A0 e0 hd => hA A0 e0 (by simpa [dep] using hd)) (by simpa [dep] using hv')
        have h3' := rep_xfer h3 (frame .l q p .r hpre (by simp))
        rw [keepM] at h3'
        refine ⟨by simp [Ty.cells, hc2], ?_⟩
        simp only [rep]
        refine ⟨_, u2, ?_, (rep_length hr2), hr2, h3'⟩
        cases A with
        | none => rfl
        | some A0 =>
          simp only [newCells]
          split
          · rename_i hb
            have hd0 : dep q = 0 := by
              rcases Nat.eq_zero_or_pos (dep q) with h | h
              · exact h
              · exact absurd hb (hA A0 rfl (by simpa [dep] using h))
            obtain ⟨A1, e1, e2, e3, e4⟩ := nav_block hd0 hn
            simp only [Option.some.injEq] at e1; subst e1
            obtain ⟨k1, cc, ce, cf, k2, k3, k4⟩ := hi
            rw [hb, hg] at k2
            simp only [Option.some.injEq, Obj.cells.injEq] at k2
            obtain ⟨rfl, rfl, rfl⟩ := k2
            simp only [Ty.cells] at k3 k4 ⊢
            rw [cellsAt_split]
            congr 1
            rw [cellsAt_splice_out hcur hfit (.inr (by simp only at e4; omega)), ← cellsAt_drop, ← k4, ← h1, List.drop_left]
          · rfl
      | _ => simp [nav] at hn
    | r =>
      cases t with
      | prod a b =>
        simp only [rep] at h
        obtain ⟨u1, u2, rfl, h1, h2, h3⟩ := h
        simp only [nav] at hn
        rw [← h1, List.drop_left] at hn
        simp only [repl] at hrp
        split at hrp
        case h_2 => simp at hrp
        rename_i b2 z hz
        simp only [Option.some.injEq, Sigma.mk.injEq] at hrp
        obtain ⟨rfl, hrp⟩ := hrp
        have hrp := eq_of_heq hrp
        subst hrp
        have hi1 : InMem w b u2 (A.map fun A => ⟨A.block, A.off + u1.length, none⟩) := by
          cases A with
          | none => trivial
          | some A0 =>
            obtain ⟨k1, cc, ce, cf, k2, k3, k4⟩ := hi
            simp only [Ty.cells] at k3 k4
            refine ⟨rfl, cc, ce, cf, k2, by simp only [h1]; omega, ?_⟩
            simp only [h1]
            rw [← cellsAt_drop, ← k4, ← h1, List.drop_left]
        obtain ⟨hc2, hr2⟩ := ih h3 hi1 hn hz hsc (by simpa [dep] using hm) hpre' (fun A0 e0 hd => by
          cases A with
          | none => simp at e0
          | some A1 => simp only [Option.map, Option.some.injEq] at e0; subst e0; exact hA A1 rfl (by simpa [dep] using hd)) (by simpa [dep] using hv')
        have h2' := rep_xfer h2 (frame .r q p .l hpre (by simp))
        rw [keepM] at h2'
        refine ⟨by simp [Ty.cells, hc2], ?_⟩
        simp only [rep]
        refine ⟨u1, _, ?_, h1, h2', hr2⟩
        cases A with
        | none => rfl
        | some A0 =>
          simp only [newCells, Option.map]
          split
          · rename_i hb
            have hd0 : dep q = 0 := by
              rcases Nat.eq_zero_or_pos (dep q) with h | h
              · exact h
              · exact absurd hb (hA A0 rfl (by simpa [dep] using h))
            obtain ⟨A1, e1, e2, e3, e4⟩ := nav_block hd0 hn
            simp only [Option.map, Option.some.injEq] at e1; subst e1
            obtain ⟨k1, cc, ce, cf, k2, k3, k4⟩ := hi
            rw [hb, hg] at k2
            simp only [Option.some.injEq, Obj.cells.injEq] at k2
            obtain ⟨rfl, rfl, rfl⟩ := k2
            simp only [Ty.cells] at k3 k4 ⊢
            rw [cellsAt_split, h1]
            congr 1
            rw [cellsAt_splice_out hcur hfit (.inl (by simp only at e3; omega)), ← cellsAt_take (n := a.cells + b.cells) (by omega), ← k4, ← h1, List.take_left]
          · rfl
      | _ => simp [nav] at hn
    | d =>
      cases t with
      | ptr t =>
        simp only [rep] at h
        obtain ⟨gb, off, cc, ce, fz, rfl, hgb, hsz, hwn, hr⟩ := h
        simp only [nav, hgb] at hn
        simp only [repl] at hrp
        split at hrp
        case h_2 => simp at hrp
        rename_i t3 z hz
        simp only [Option.some.injEq, Sigma.mk.injEq] at hrp
        obtain ⟨rfl, hrp⟩ := hrp
        have hrp := eq_of_heq hrp
        subst hrp
        have hm' : 0 < m := by simp [dep] at hm; omega
        rcases hwn with ⟨h0, _⟩ | ⟨_, hlb, hoff, hfz, hsize⟩
        · omega
        have hA' : ∀ A0, some (⟨gb, off, none⟩ : Addr) = some A0 → 0 < dep q → A0.block ≠ g := by
          intro A0 e0 hd e1
          simp only [Option.some.injEq] at e0; subst e0
          simp only at e1
          obtain ⟨q1, q2, e2, e3, e4, _⟩ := nav_label hr hn hd (by simp [dep] at hm; omega)
          simp only at e4
          rw [← e1, hlb] at e4
          simp only [Option.some.injEq, Prod.mk.injEq, true_and] at e4
          have := congrArg List.length e4
          simp at this
        obtain ⟨hc2, hr2⟩ := ih (A := some ⟨gb, off, none⟩) hr ⟨rfl, cc, ce, fz, hgb, hsz, rfl⟩ hn hz hsc (by simp [dep] at hm; omega) hpre' hA' (by
          simp only [dep] at hv'
          rwa [show m - 1 - dep q = m - (dep q + 1) by omega])
        refine ⟨rfl, ?_⟩
        have hus : newCells g cur' (Ty.ptr t).cells [.pointer (some ⟨gb, off, none⟩)] A = [.pointer (some ⟨gb, off, none⟩)] := by
          cases A with
          | none => rfl
          | some A0 => simp only [newCells]; rw [if_neg (hA A0 rfl (by simp [dep]))]
        rw [hus]
        simp only [rep]
        have hlb' := hown gb p (lt_of_heap hgb) hlb
        by_cases hgg : gb = g
        · subst hgg
          rw [hgb] at hg
          simp only [Option.some.injEq, Obj.cells.injEq] at hg
          obtain ⟨rfl, rfl, rfl⟩ := hg
          have hsz' := splice_size hcur hfit
          refine ⟨gb, off, cur', ce, (0, 0), rfl, hg', by rw [hsz', hc2]; exact hsz, .inr ⟨hm', hlb', hoff, rfl, by rw [hsz', hc2]; exact hsize⟩, ?_⟩
          simpa [newCells, hc2] using hr2
        · refine ⟨gb, off, cc, ce, fz, rfl, by rw [hw gb (lt_of_heap hgb) hgg]; exact hgb, by rw [hc2]; exact hsz, .inr ⟨hm', hlb', hoff, hfz, by rw [hc2]; exact hsize⟩, ?_⟩
          simpa [newCells, hgg, hc2] using hr2
      | _ => simp [nav] at hn
    | e i =>
      cases t with
      | slc t =>
        simp only [rep] at h
        obtain ⟨base, cap, rfl, hc, hmx, h⟩ := h
        rcases h with ⟨rfl, rfl, rfl⟩ | ⟨gb, off, cc, ce, fz, rfl, hgb, hsz, hwn, hr⟩
        · simp [nav] at hn
        simp only [nav, hgb] at hn
        split at hn
        case isFalse => simp at hn
        rename_i hlt
        simp only [repl] at hrp
        split at hrp
        case h_2 => simp at hrp
        rename_i xi hxi
        split at hrp
        case h_2 => simp at hrp
        rename_i t3 z hz
        split at hrp
        case h_2 => simp at hrp
        rename_i _ he3 _
        subst he3
        simp only [Option.some.injEq, Sigma.mk.injEq] at hrp
        obtain ⟨rfl, hrp⟩ := hrp
        have hrp := eq_of_heq hrp
        subst hrp
        obtain ⟨_, rfl⟩ := List.getElem?_eq_some_iff.1 hxi
        have hm' : 0 < m := by simp [dep] at hm; omega
        rcases hwn with ⟨h0, _⟩ | ⟨_, hlb, hoff, hfz, hsize⟩
        · omega
        have hA' : ∀ A0, some (⟨gb, off + i * t3.cells, none⟩ : Addr) = some A0 → 0 < dep q → A0.block ≠ g := by
          intro A0 e0 hd e1
          simp only [Option.some.injEq] at e0; subst e0
          simp only at e1
          obtain ⟨q1, q2, e2, e3, e4, _⟩ := nav_label (hr i hlt) hn hd (by simp [dep] at hm; omega)
          simp only at e4
          rw [← e1, hlb] at e4
          simp only [Option.some.injEq, Prod.mk.injEq, true_and] at e4
          have := congrArg List.length e4
          simp at this
        have hin : i * t3.cells + t3.cells ≤ x.length * t3.cells := by rw [← Nat.succ_mul]; exact Nat.mul_le_mul_right _ hlt
        obtain ⟨hc2, hr2⟩ := ih (A := some ⟨gb, off + i * t3.cells, none⟩) (hr i hlt) ⟨rfl, cc, ce, fz, hgb, by simp only []; omega, rfl⟩ hn hz hsc (by simp [dep] at hm; omega) hpre' hA' (by
          simp only [dep] at hv'
          rwa [show m - 1 - dep q = m - (dep q + 1) by omega])
        refine ⟨rfl, ?_⟩
        have hus : newCells g cur' (Ty.slc t3).cells [.slice (some ⟨gb, off, none⟩) x.length cap] A = [.slice (some ⟨gb, off, none⟩) x.length cap] := by
          cases A with
          | none => rfl
          | some A0 => simp only [newCells]; rw [if_neg (hA A0 rfl (by simp [dep]))]
        rw [hus]
        simp only [rep]
        have hlb' := hown gb p (lt_of_heap hgb) hlb
        refine ⟨some ⟨gb, off, none⟩, cap, by simp, by simpa using hc, hmx, .inr ?_⟩
        by_cases hgg : gb = g
        · subst hgg
          rw [hgb] at hg
          simp only [Option.some.injEq, Obj.cells.injEq] at hg
          obtain ⟨rfl, rfl, rfl⟩ := hg
          have hsz' := splice_size hcur hfit
          have hd0 : dep q = 0 := by
            rcases Nat.eq_zero_or_pos (dep q) with h | h
            · exact h
            · exact absurd rfl (hA' _ rfl h)
          obtain ⟨A1, e1, e2, e3, e4⟩ := nav_block hd0 hn
          simp only [Option.some.injEq] at e1; subst e1
          refine ⟨gb, off, cur', ce, (0, 0), rfl, hg', by rw [hsz']; simpa using hsz, .inr ⟨hm', hlb', hoff, rfl, by rw [hsz']; exact hsize⟩, fun j hj => ?_⟩
          simp only [List.length_set] at hj
          by_cases hij : i = j
          · subst hij
            simp only [List.getElem_set_self]
            simpa [newCells] using hr2
          · rw [List.getElem_set_ne hij]
            have hx := rep_xfer (hr j hj) (frame (.e i) q p (.e j) hpre (by simp [hij]))
            rw [keepM] at hx
            rw [cellsAt_splice_out hcur hfit]
            · exact hx
            · simp only at e3 e4
              rcases Nat.lt_or_gt_of_ne hij with hlt2 | hgt2
              · right
                have : i * t3.cells + t3.cells ≤ j * t3.cells := by rw [← Nat.succ_mul]; exact Nat.mul_le_mul_right _ hlt2
                omega
              · left
                have : j * t3.cells + t3.cells ≤ i * t3.cells := by rw [← Nat.succ_mul]; exact Nat.mul_le_mul_right _ hgt2
                omega
        · refine ⟨gb, off, cc, ce, fz, rfl, by rw [hw gb (lt_of_heap hgb) hgg]; exact hgb, by simpa using hsz, .inr ⟨hm', hlb', hoff, hfz, hsize⟩, fun j hj => ?_⟩
          simp only [List.length_set] at hj
          by_cases hij : i = j
          · subst hij
            simp only [List.getElem_set_self]
            simpa [newCells, hgg] using hr2
          · rw [List.getElem_set_ne hij]
            have hx := rep_xfer (hr j hj) (frame (.e i) q p (.e j) hpre (by simp [hij]))
            rwa [keepM] at hx
      | _ => simp [nav] at hn

end Go.Abs
