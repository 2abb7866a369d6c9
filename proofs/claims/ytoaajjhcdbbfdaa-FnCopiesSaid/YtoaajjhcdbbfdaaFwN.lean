/- The framework: walks of code that keep plain values. -/
import Derived.Test.YtoaajjhcdbbfdaaFwM
set_option linter.unusedSimpArgs false
set_option linter.unnecessarySimpa false
set_option linter.unusedVariables false
namespace Go.Abs

def appLab (lab : Lab) (d n : Nat) (nb : Option Nat) : Lab := fun b =>
  if nb = some b then some (d, []) else
  match lab b with
  | some (r, q) => if r = vroot then some (d, q) else if r = vroot + 1 then (match q with | .e j :: q => some (d, .e (n + j) :: q) | _ => none) else some (r, q)
  | none => none

theorem appLab_old {lab : Lab} {d n : Nat} {nb : Option Nat} {b : Nat} (h : nb ≠ some b) : appLab lab d n nb b = match lab b with
  | some (r, q) => if r = vroot then some (d, q) else if r = vroot + 1 then (match q with | .e j :: q => some (d, .e (n + j) :: q) | _ => none) else some (r, q)
  | none => none := by simp [appLab, h]

section
variable {lab : Lab} {w w' : World} {d n : Nat} {nb : Option Nat}

theorem appLab_shr (hn : ∀ b, nb = some b → w.heap.size ≤ b) : ∀ b, b < w.heap.size → lab b = none → appLab lab d n nb b = none := fun b hb hl => by
  rw [appLab_old (fun e => by have := hn b e; omega), hl]

theorem appLab_keep {k : Nat} (hn : ∀ b, nb = some b → w.heap.size ≤ b) (hk : k < 1000000) (hw : ∀ b, b < w.heap.size → lab b ≠ some (vroot, []) → w'.heap[b]? = w.heap[b]?) : Keeps lab (appLab lab d n nb) w w' k :=
  ⟨fun b hb hl => ⟨appLab_shr hn b hb hl, hw b hb (by simp [hl])⟩, fun b q hb hl => ⟨by
    simp only [List.nil_append] at hl
    rw [appLab_old (fun e => by have := hn b e; omega), hl]
    have h1 : k ≠ vroot := by unfold vroot; omega
    have h2 : k ≠ vroot + 1 := by unfold vroot; omega
    simp [h1, h2, lessThan], hw b hb (by simp only [List.nil_append] at hl; rw [hl]; simp [vroot]; omega)⟩⟩

theorem appLab_left {i : Nat} (hn : ∀ b, nb = some b → w.heap.size ≤ b) (hw : ∀ b, b < w.heap.size → lab b ≠ some (vroot, []) → w'.heap[b]? = w.heap[b]?) : Xfer lab (appLab lab d n nb) w w' vroot [.e i] d [.e i] none :=
  ⟨fun b hb hl => ⟨appLab_shr hn b hb hl, hw b hb (by simp [hl])⟩, fun b q hb hl => ⟨by
    rw [appLab_old (fun e => by have := hn b e; omega), hl]
    simp [lessThan], hw b hb (by rw [hl]; simp)⟩⟩

theorem appLab_right {j : Nat} (hn : ∀ b, nb = some b → w.heap.size ≤ b) (hw : ∀ b, b < w.heap.size → lab b ≠ some (vroot, []) → w'.heap[b]? = w.heap[b]?) : Xfer lab (appLab lab d n nb) w w' (vroot + 1) [.e j] d [.e (n + j)] none :=
  ⟨fun b hb hl => ⟨appLab_shr hn b hb hl, hw b hb (by simp [hl])⟩, fun b q hb hl => ⟨by
    rw [appLab_old (fun e => by have := hn b e; omega), hl]
    simp [lessThan], hw b hb (by rw [hl]; simp)⟩⟩

end

/-- What append does, in three cases. -/
theorem run_append_cases {P : Program} {T ty E : TypeId} {e : Ty} {i : TypeInfo} {z : Value} (hS : SlcOK P T e E i z) (w : World) {sb : Option Addr} {n cap : Nat} {olds : List Value} (hol : olds.length = n * e.cells) (hnc : n ≤ cap) (hcm : cap ≤ maxLen)
    (hs : (sb = none ∧ n = 0 ∧ cap = 0) ∨ ∃ g cur ce, sb = some ⟨g, 0, none⟩ ∧ w.heap[g]? = some (.cells cur ce (0, 0)) ∧ cur.size = cap * e.cells ∧ cur.toList.take (n * e.cells) = olds)
    {xb : Option Addr} {m xc : Nat} {news : List Value} (hnl : news.length = m * e.cells) (hx : (xb = none ∧ m = 0) ∨ ∃ a, xb = some a ∧ ∀ j u, news[j]? = some u → w.cell? (a.add j) = some u) (h1 : ∀ u ∈ news, u.oneCell' = true)
    (hb : n + m ≤ 17179869184) :
    ∃ v' w', (Builtin.append_ #[T, T] ty #[.slice sb n cap, .slice xb m xc]).run P w = .ok v' w' ∧
      ((v' = .slice none 0 0 ∧ w' = w ∧ n = 0 ∧ m = 0 ∧ sb = none) ∨
       ∃ cur' cap', cur'.size = cap' * e.cells ∧ n + m ≤ cap' ∧ cap' ≤ maxLen ∧ cur'.toList.take ((n + m) * e.cells) = olds ++ news ∧
        ((∃ w1 : World, w1.heap = w.heap ∧ w1.os = w.os ∧ w1.tape = w.tape ∧ w1.output = w.output ∧ v' = .slice (some ⟨w.heap.size, 0, none⟩) (n + m) cap' ∧ w' = w1.alloc (.cells cur' E)) ∨
         (∃ g cur ce, sb = some ⟨g, 0, none⟩ ∧ w.heap[g]? = some (.cells cur ce (0, 0)) ∧ v' = .slice (some ⟨g, 0, none⟩) (n + m) cap' ∧ w' = w.setRow g cur' ∧ cap' = cap))) := by
  have hby : (n + m) * i.bytes ≤ 140737488355328 := by
    have := Nat.mul_le_mul hb hS.bytes
    omega
  have hcl : (n + m) * e.cells = n * e.cells + m * e.cells := Nat.add_mul ..
  have hfirst : (Builtin.firstCells e.cells m (.slice xb m xc)).run P w = .ok news.toArray w := by
    rcases hx with ⟨rfl, rfl⟩ | ⟨a, rfl, ha⟩
    · have : news = [] := List.eq_nil_of_length_eq_zero (by simpa using hnl)
      subst this
      simp [Builtin.firstCells]
    · exact run_firstCells_some w e.cells m a m xc news hnl ha
  have grown : ∀ old, old < n + m → 0 < m → ∃ cur', cur' = (olds.toArray ++ news.toArray ++ Builtin.zeroCells z.cells (grownCap w (n + m) old E - (n + m))) ∧ cur'.size = grownCap w (n + m) old E * e.cells ∧ n + m ≤ grownCap w (n + m) old E ∧ grownCap w (n + m) old E ≤ maxLen ∧ cur'.toList.take ((n + m) * e.cells) = olds ++ news := by
    intro old _ _
    have hge := grownCap_ge w (n + m) old E
    have hle := grownCap_le_maxLen w (n + m) old E (by unfold maxLen; omega)
    refine ⟨_, rfl, ?_, hge, hle, ?_⟩
    · simp only [Array.size_append, List.size_toArray, size_zeroCells, hS.zsize, hol, hnl, ← Nat.add_mul]
      congr 1; omega
    · simp only [Array.toList_append, List.append_assoc]
      rw [← List.append_assoc, hcl, ← hol, ← hnl, ← List.length_append]
      exact List.take_left
  rcases hs with ⟨rfl, rfl, rfl⟩ | ⟨g, cur, ce, rfl, hg, hcs, htake⟩
  · have ho : olds = [] := List.eq_nil_of_length_eq_zero (by simpa using hol)
    subst ho
    by_cases hm : m = 0
    · subst hm
      refine ⟨.slice none 0 0, w, ?_, .inl ⟨rfl, rfl, rfl, rfl, rfl⟩⟩
      have hn0 : news = [] := List.eq_nil_of_length_eq_zero (by simpa using hnl)
      subst hn0
      have hfirst' : (Builtin.firstCells i.size 0 (.slice xb 0 xc)).run P w = .ok #[] w := by rw [hS.size]; exact hfirst
      simp [Builtin.append_, run_underlying hS.under, sizeOf, typeInfo, hS.info, Builtin.lenOf, hfirst']
    · obtain ⟨a, rfl, ha⟩ : ∃ a, xb = some a ∧ ∀ j u, news[j]? = some u → w.cell? (a.add j) = some u := by
        rcases hx with ⟨_, h⟩ | h
        · exact absurd h hm
        · exact h
      obtain ⟨cur', he, h2, h3, h4, h5⟩ := grown 0 (by omega) (by omega)
      have hr := run_append_nil (P := P) w T ty E i z hS.under hS.info hS.zero a m xc news (by rw [hS.size]; exact hnl) ha (by omega) (by omega) (by rw [Nat.zero_add] at hby; omega)
      refine ⟨_, _, hr, .inr ⟨cur', _, h2, h3, h4, h5, .inl ⟨w.drew, rfl, rfl, rfl, rfl, by simp, ?_⟩⟩⟩
      rw [he]; simp
  · by_cases hroom : n + m ≤ cap
    · have hfit : n * e.cells + news.length ≤ cur.size := by rw [hnl, hcs, ← Nat.add_mul]; exact Nat.mul_le_mul_right _ hroom
      have hst := run_storeCells_at P g (n * e.cells) ce news 0 cur w hg (by simpa using hfit) h1
      simp only [Nat.add_zero] at hst
      have hfirst' : (Builtin.firstCells i.size m (.slice xb m xc)).run P w = .ok news.toArray w := by rw [hS.size]; exact hfirst
      refine ⟨.slice (some ⟨g, 0, none⟩) (n + m) cap, w.setRow g (splice cur.toList (n * e.cells) news).toArray, ?_, .inr ⟨(splice cur.toList (n * e.cells) news).toArray, cap, ?_, hroom, hcm, ?_, .inr ⟨g, cur, ce, rfl, hg, rfl, rfl, rfl⟩⟩⟩
      · have hst' : (storeCells ⟨g, n * i.size, none⟩ news).run P w = .ok () (w.setRow g (splice cur.toList (n * e.cells) news).toArray) := by rw [hS.size]; exact hst
        simp [Builtin.append_, run_underlying hS.under, sizeOf, typeInfo, hS.info, Builtin.lenOf, hroom, hfirst', Addr.add_lit, hst']
      · simp only [List.size_toArray, splice, List.length_append, List.length_take, List.length_drop, Array.length_toList]; omega
      · simp only [splice]
        have hl : (cur.toList.take (n * e.cells)).length = n * e.cells := by simp; omega
        rw [htake, hcl, ← hnl, ← hol, ← List.length_append]
        exact List.take_left
    · have hm : 0 < m := by omega
      obtain ⟨a, rfl, ha⟩ : ∃ a, xb = some a ∧ ∀ j u, news[j]? = some u → w.cell? (a.add j) = some u := by
        rcases hx with ⟨_, h⟩ | h
        · omega
        · exact h
      obtain ⟨cur', he, h2, h3, h4, h5⟩ := grown cap (by omega) hm
      have holds : ∀ j v, olds[j]? = some v → w.cell? ((⟨g, 0, none⟩ : Addr).add j) = some v := by
        intro j v hj
        rw [← htake, List.getElem?_take] at hj
        split at hj
        · rw [add_lit]; simpa [World.cell?, hg] using hj
        · simp at hj
      have hr := run_append_grow (P := P) w T ty E i z hS.under hS.info hS.zero ⟨g, 0, none⟩ n cap olds (by rw [hS.size]; exact hol) holds a m xc news (by rw [hS.size]; exact hnl) ha (by omega) (by omega) (growslice_fits (by omega) hby)
      exact ⟨_, _, hr, .inr ⟨cur', _, h2, h3, h4, h5, .inl ⟨w.drew, rfl, rfl, rfl, rfl, rfl, by rw [he]⟩⟩⟩

theorem cells_of_elems {lab : Lab} {w : World} {e : Ty} {m : Nat} {cur : Array Value} {off n : Nat} {d : Nat} {p : Nat → Path} {xs : List (den e)} (hn : xs.length = n) (h : ∀ i (hi : i < xs.length), rep lab w e m xs[i] (cellsAt cur (off + i * e.cells) e.cells) d (p i)) :
    ∀ u ∈ cellsAt cur off (n * e.cells), u.oneCell' = true := by
  intro u hu
  by_cases h0 : e.cells = 0
  · rw [h0, Nat.mul_zero] at hu; simp [cellsAt] at hu
  obtain ⟨j, hj, rfl⟩ := List.getElem_of_mem hu
  have hjl : j < n * e.cells := by
    have : (cellsAt cur off (n * e.cells)).length ≤ n * e.cells := by simp [cellsAt]; omega
    omega
  have hpos : 0 < e.cells := by omega
  have hq : j / e.cells < n := by rw [Nat.div_lt_iff_lt_mul hpos]; exact hjl
  have hr := h (j / e.cells) (by omega)
  have hmod := Nat.mod_lt j hpos
  have hdm := Nat.div_add_mod j e.cells
  have hmem : (cellsAt cur off (n * e.cells))[j] ∈ cellsAt cur (off + j / e.cells * e.cells) e.cells := by
    apply List.mem_of_getElem? (i := j % e.cells)
    have hg : (cellsAt cur off (n * e.cells))[j]? = some (cellsAt cur off (n * e.cells))[j] := List.getElem?_eq_getElem hj
    rw [← hg]
    simp only [cellsAt, List.getElem?_take, List.getElem?_drop]
    rw [if_pos hmod, if_pos hjl]
    congr 1
    rw [Nat.mul_comm] at hdm
    omega
  exact rep_oneCell hr _ hmem

end Go.Abs
