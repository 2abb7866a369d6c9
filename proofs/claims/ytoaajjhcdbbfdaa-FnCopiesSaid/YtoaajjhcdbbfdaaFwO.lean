/- The framework: walks of code that keep plain values. -/
import Derived.Test.YtoaajjhcdbbfdaaFwN
set_option linter.unusedSimpArgs false
set_option linter.unnecessarySimpa false
set_option linter.unusedVariables false
namespace Go.Abs

def own1 : List OV → List Nat
  | .ref k _ _ _ _ _ :: _ => [k]
  | _ => []

theorem cellsAt_take_of {cur : Array Value} {N o k : Nat} {l : List Value} (h : cur.toList.take N = l) (hk : o + k ≤ N) : cellsAt cur o k = (l.drop o).take k := by
  subst h
  simp only [cellsAt, List.drop_take, List.take_take]
  rw [Nat.min_eq_left (by omega)]

section
variable {P : Program} {c : Ctx} {l : Env} {o : Oper}

theorem r_appendC {T : TypeId} {s x : Operand} {ovs : List OV} {up : List (Nat × Option AX)} {krd : List Nat} {kp : List (Nat × Option AX)} {v0 : V} {e : Ty} {ms mx mr : Nat} {xs ys zs : List (den e)} (mv : List Nat) (ho : o.op = .call { callee := .builtin .append, args := #[s, x], argTypes := #[T, T] })
    (hv : viewAll l [s, x] = some ovs) (ht : takes (own1 ovs ++ mv) ovs = some ([v0, ⟨.slc e, mx, ys⟩], up)) (hkp : ∀ l' a w lab lab1, (∀ k ∈ rds ovs ++ krd, look l' k = look l k) → Rel c l' a w lab → Rel c (applyUpd l' up) a w lab1 → Rel c (applyUpd l' (up ++ kp)) a w lab1) (hcast : ∀ lab w u r, repV lab w v0.t v0.m v0.x u r [] → repV lab w (.slc e) ms xs u r []) (hT : TyOK P T (.slc e)) (hms : Nat.blt 0 ms = true) (h1 : okM e (ms - 1) mr = true) (h2 : okM e (mx - 1) mr = true)
    (hlen : xs.length + ys.length ≤ 17179869184) (hz : xs ++ ys = zs) : SR P c l o ⟨rds ovs ++ krd, some (.val (.slc e) (mr + 1) zs), up ++ kp⟩ := fun l' hag => by
  subst hz
  have hs := seenAll_of (viewAll_agree hv (agree_left hag))
  have hms : 0 < ms := by simpa [Nat.blt_eq] using hms
  refine snd_value fun a w lab hR hd => ?_
  obtain ⟨lab1, hR1, hk1, _, hv1, hsh1, hkp1⟩ := takes_sound vroot (by unfold vroot; omega) hR hs ht
  replace hR1 := hkp l' a w lab lab1 hag hR hR1
  obtain ⟨E, i, z, hS⟩ := slcOK hT
  have hv0 := (hcast _ _ _ _ (hv1 0 (by simp) (by simp))).rep
  have hvx := (hv1 1 (by simp) (by simp)).rep
  simp only [List.getElem_cons_zero, List.getElem_cons_succ, Nat.add_zero, cellsOf, Ty.agg, rep] at hv0 hvx
  obtain ⟨sb, cap, he, hnc, hcm, hsr⟩ := hv0
  obtain ⟨xb, xc, hex, _, _, hxr⟩ := hvx
  simp only [List.cons.injEq, and_true] at he hex
  -- the old cells
  have hold : ∃ olds : List Value, olds.length = xs.length * e.cells ∧
      ((sb = none ∧ xs.length = 0 ∧ cap = 0) ∨ ∃ g cur ce, sb = some ⟨g, 0, none⟩ ∧ w.heap[g]? = some (.cells cur ce (0, 0)) ∧ cur.size = cap * e.cells ∧ cur.toList.take (xs.length * e.cells) = olds) ∧
      (∀ g, sb = some ⟨g, 0, none⟩ → lab1 g = some (vroot, [])) ∧
      ∀ i (hi : i < xs.length), rep lab1 w e (ms - 1) xs[i] ((olds.drop (i * e.cells)).take e.cells) vroot [.e i] := by
    rcases hsr with ⟨rfl, rfl, rfl⟩ | ⟨g, off, cur, ce, fz, rfl, hg, hsz, hown, hel⟩
    · exact ⟨[], by simp, .inl ⟨rfl, rfl, rfl⟩, by simp, by simp⟩
    · rcases hown with ⟨h0, _⟩ | ⟨_, hlb, rfl, rfl, hcs⟩
      · omega
      · have hle : xs.length * e.cells ≤ cap * e.cells := Nat.mul_le_mul_right _ hnc
        refine ⟨cur.toList.take (xs.length * e.cells), by simp; omega, .inr ⟨g, cur, ce, rfl, hg, hcs, rfl⟩, fun g' hg' => by simp only [Option.some.injEq, Addr.mk.injEq] at hg'; rw [← hg'.1]; exact hlb, fun i hi => ?_⟩
        have := hel i hi
        have hle2 : i * e.cells + e.cells ≤ xs.length * e.cells := by rw [← Nat.succ_mul]; exact Nat.mul_le_mul_right _ hi
        rw [Nat.zero_add, cellsAt_take_of rfl hle2] at this
        simpa using this
  obtain ⟨olds, hol, hs3, hslab, hsel⟩ := hold
  have hnew : ∃ news : List Value, news.length = ys.length * e.cells ∧ ((xb = none ∧ ys.length = 0) ∨ ∃ a, xb = some a ∧ ∀ j u, news[j]? = some u → w.cell? (a.add j) = some u) ∧ (∀ u ∈ news, u.oneCell' = true) ∧
      ∀ j (hj : j < ys.length), rep lab1 w e (mx - 1) ys[j] ((news.drop (j * e.cells)).take e.cells) (vroot + 1) [.e j] := by
    rcases hxr with ⟨rfl, rfl, rfl⟩ | ⟨g, off, cur, ce, fz, rfl, hg, hsz, hown, hel⟩
    · exact ⟨[], by simp, .inl ⟨rfl, rfl⟩, by simp, by simp⟩
    · refine ⟨cellsAt cur off (ys.length * e.cells), cellsAt_length hsz, .inr ⟨_, rfl, fun j u hj => ?_⟩, cells_of_elems rfl hel, fun j hj => ?_⟩
      · rw [add_lit]; simpa [World.cell?, hg] using cellsAt_getElem hj
      · have := hel j hj
        have hle2 : j * e.cells + e.cells ≤ ys.length * e.cells := by rw [← Nat.succ_mul]; exact Nat.mul_le_mul_right _ hj
        have he : ((cellsAt cur off (ys.length * e.cells)).drop (j * e.cells)).take e.cells = cellsAt cur (off + j * e.cells) e.cells := by
          simp only [cellsAt, List.drop_take, List.take_take, List.drop_drop]
          rw [Nat.min_eq_left (by omega)]
        rw [he]
        simpa using this
  obtain ⟨news, hnl, hx3, hnone, hyel⟩ := hnew
  obtain ⟨v', w', hrun, hcase⟩ := run_append_cases (ty := o.type) hS w hol hnc hcm hs3 hnl (xc := xc) hx3 hnone hlen
  have hexec : (execOp a.eval o).run P w = .ok (.value v') w' := by
    have e1 : a.eval s = .slice sb xs.length cap := he
    have e2 : a.eval x = .slice xb ys.length xc := hex
    simp [execOp, ho, resolve, invoke, builtin, e1, e2, hrun]
  have elems_of : ∀ (lab2 : Lab) (w2 : World) (d : Nat) (cur' : Array Value), cur'.toList.take ((xs.length + ys.length) * e.cells) = olds ++ news →
      (∀ i, Xfer lab1 lab2 w w2 vroot [.e i] d [.e i] none) → (∀ j, Xfer lab1 lab2 w w2 (vroot + 1) [.e j] d [.e (xs.length + j)] none) →
      ∀ i (hi : i < (xs ++ ys).length), rep lab2 w2 e mr (xs ++ ys)[i] (cellsAt cur' (i * e.cells) e.cells) d [.e i] := by
    intro lab2 w2 d cur' htk hl hr i hi
    have hi' : i < xs.length + ys.length := by simpa using hi
    have hle : i * e.cells + e.cells ≤ (xs.length + ys.length) * e.cells := by rw [← Nat.succ_mul]; exact Nat.mul_le_mul_right _ hi'
    rw [cellsAt_take_of htk hle]
    by_cases hix : i < xs.length
    · have hle2 : i * e.cells + e.cells ≤ xs.length * e.cells := by rw [← Nat.succ_mul]; exact Nat.mul_le_mul_right _ hix
      rw [List.getElem_append_left hix, List.drop_append_of_le_length (by omega), List.take_append_of_le_length (by simp; omega)]
      have := rep_okM h1 (rep_xfer (hsel i hix) (hl i))
      simpa [cutTo] using this
    · have hge : xs.length * e.cells ≤ i * e.cells := Nat.mul_le_mul_right _ (by omega)
      rw [List.getElem_append_right (by omega), List.drop_append, List.drop_of_length_le (by omega), List.nil_append, hol, ← Nat.mul_sub_right_distrib]
      have := rep_okM h2 (rep_xfer (hyel (i - xs.length) (by omega)) (hr (i - xs.length)))
      rw [show xs.length + (i - xs.length) = i by omega] at this
      simpa [cutTo] using this
  rcases hcase with ⟨rfl, rfl, hn0, hm0, _⟩ | ⟨cur', cap', hsz', hle', hcm', htk, hcase⟩
  · -- nothing onto nil
    have hxs : xs = [] := List.eq_nil_of_length_eq_zero hn0
    have hys : ys = [] := List.eq_nil_of_length_eq_zero hm0
    subst hxs; subst hys
    cases hdst : o.dst with
    | none => exact ⟨_, _, lab1, hexec, by simpa [after, Act.put] using hR1⟩
    | some d =>
      refine ⟨_, _, appLab lab1 d 0 none, hexec, fin_val hR1 (hd.lt d hdst) (hd.fix d hdst) (hR1.fr.ghost (appLab_shr nb_none)) (fun k hk hk2 => appLab_keep nb_none hk2 fun _ _ _ => rfl) ?_⟩
      refine repV_lone rfl ?_
      simp only [rep]
      exact ⟨none, 0, rfl, Nat.le_refl _, Nat.zero_le _, .inl ⟨rfl, rfl, rfl⟩⟩
  · rcases hcase with ⟨w1, q1, q2, q3, q4, rfl, rfl⟩ | ⟨g, cur, ce, rfl, hg, rfl, rfl, rfl⟩
    · -- a new block
      have hold' : ∀ b, b < w.heap.size → (w1.alloc (.cells cur' E)).heap[b]? = w.heap[b]? := fun b hb => by
        rw [alloc_old w1 _ b (by rw [q1]; exact hb), q1]
      cases hdst : o.dst with
      | none =>
        refine ⟨_, _, lab1, hexec, ?_⟩
        simp only [after, Act.put]
        have := hR1.change (a' := a) (w' := w1.alloc (.cells cur' E)) (lab' := lab1) [] (by simp) hR1.defers rfl (fun _ _ _ => rfl) (fun _ _ => rfl) (hR1.fr.next q2 q3 q4 (by simp [q1]) fun b hb hl => ⟨hl, hold' b hb⟩) (fun k _ _ => ⟨fun b hb hl => ⟨hl, hold' b hb⟩, fun b q hb hl => ⟨by simpa [lessThan] using hl, hold' b hb⟩⟩)
        simpa [purgeAll] using this
      | some d =>
        refine ⟨_, _, appLab lab1 d xs.length (some w.heap.size), hexec, fin_val hR1 (hd.lt d hdst) (hd.fix d hdst) (hR1.fr.next q2 q3 q4 (by simp [q1]) fun b hb hl => ⟨appLab_shr nb_some b hb hl, hold' b hb⟩) (fun k hk hk2 => appLab_keep nb_some hk2 fun b hb _ => hold' b hb) ?_⟩
        rw [← q1]
        refine rep_newslice (w := w1) (by simp [appLab, q1]) (by simp) hle' hcm' hsz' ?_
        exact elems_of _ _ d cur' htk (fun i => appLab_left (by rw [q1]; exact nb_some) fun b hb _ => hold' b hb) (fun j => appLab_right (by rw [q1]; exact nb_some) fun b hb _ => hold' b hb)
    · -- in place
      have hgl := hslab g rfl
      have hold' : ∀ b, b < w.heap.size → lab1 b ≠ some (vroot, []) → (w.setRow g cur').heap[b]? = w.heap[b]? := fun b hb hne => setRow_old b hb fun he => hne (he ▸ hgl)
      have hss : (w.setRow g cur').heap.size = w.heap.size := by simp [World.setRow]
      cases hdst : o.dst with
      | none =>
        refine ⟨_, _, lab1, hexec, ?_⟩
        simp only [after, Act.put]
        have := hR1.change (a' := a) (w' := w.setRow g cur') (lab' := lab1) [] (by simp) hR1.defers rfl (fun _ _ _ => rfl) (fun _ _ => rfl) (hR1.fr.next rfl rfl rfl (Nat.le_of_eq hss.symm) fun b hb hl => ⟨hl, hold' b hb (by rw [hl]; simp)⟩) (fun k _ hk2 => ⟨fun b hb hl => ⟨hl, hold' b hb (by rw [hl]; simp)⟩, fun b q hb hl => ⟨by simpa [lessThan] using hl, hold' b hb (by simp only [List.nil_append] at hl; rw [hl]; simp [vroot]; omega)⟩⟩)
        simpa [purgeAll] using this
      | some d =>
        refine ⟨_, _, appLab lab1 d xs.length none, hexec, fin_val hR1 (hd.lt d hdst) (hd.fix d hdst) (hR1.fr.next rfl rfl rfl (Nat.le_of_eq hss.symm) fun b hb hl => ⟨appLab_shr nb_none b hb hl, hold' b hb (by rw [hl]; simp)⟩) (fun k hk hk2 => appLab_keep nb_none hk2 hold') ?_⟩
        refine repV_lone rfl ?_
        simp only [rep]
        have hg' := setRow_heap w g cur cur' ce (0, 0) hg
        refine ⟨some ⟨g, 0, none⟩, cap', by simp, by simpa using hle', hcm', .inr ⟨g, 0, cur', ce, (0, 0), rfl, hg', ?_, .inr ⟨by omega, ?_, rfl, rfl, hsz'⟩, fun i hi => ?_⟩⟩
        · rw [hsz', Nat.zero_add]; exact Nat.mul_le_mul_right _ (by simpa using hle')
        · rw [appLab_old (by simp), hgl]; simp
        · rw [Nat.zero_add]
          simpa using elems_of _ _ d cur' htk (fun i => appLab_left nb_none hold') (fun j => appLab_right nb_none hold') i hi


theorem r_append {T : TypeId} {s x : Operand} {ovs : List OV} {up : List (Nat × Option AX)} {e : Ty} {ms mx mr : Nat} {xs ys zs : List (den e)} (mv : List Nat) (ho : o.op = .call { callee := .builtin .append, args := #[s, x], argTypes := #[T, T] })
    (hv : viewAll l [s, x] = some ovs) (ht : takes (own1 ovs ++ mv) ovs = some ([⟨.slc e, ms, xs⟩, ⟨.slc e, mx, ys⟩], up)) (hT : TyOK P T (.slc e)) (hms : Nat.blt 0 ms = true) (h1 : okM e (ms - 1) mr = true) (h2 : okM e (mx - 1) mr = true)
    (hlen : xs.length + ys.length ≤ 17179869184) (hz : xs ++ ys = zs) : SR P c l o ⟨rds ovs, some (.val (.slc e) (mr + 1) zs), up⟩ := by
  have := r_appendC (c := c) (krd := []) (kp := []) mv ho hv ht (fun l' a w lab lab1 _ _ h => by simpa using h) (fun _ _ _ _ h => h) hT hms h1 h2 hlen hz
  simpa using this

end
end Go.Abs
