/- The framework: walks of code that keep plain values. -/
import Derived.Test.YtoaajjhcdbbfdaaFwH
set_option linter.unusedSimpArgs false
set_option linter.unnecessarySimpa false
set_option linter.unusedVariables false
namespace Go.Abs

def vroot : Nat := 2000000

/-- What is held at some roots is carried to parts of a slot's datum; a new block is the slot's. -/
def relab (lab : Lab) (d : Nat) (f : Nat → Option Path) (nb : Option Nat) : Lab := fun b =>
  if nb = some b then some (d, []) else
  match lab b with
  | some (r, q) => match f r with | some p => some (d, p ++ q) | none => some (r, q)
  | none => none

theorem relab_old {lab : Lab} {d : Nat} {f : Nat → Option Path} {nb : Option Nat} {b : Nat} (h : nb ≠ some b) :
    relab lab d f nb b = match lab b with | some (r, q) => (match f r with | some p => some (d, p ++ q) | none => some (r, q)) | none => none := by simp [relab, h]

section
variable {lab : Lab} {w w' : World} {d : Nat} {f : Nat → Option Path} {nb : Option Nat}

theorem relab_shr (hn : ∀ b, nb = some b → w.heap.size ≤ b) : ∀ b, b < w.heap.size → lab b = none → relab lab d f nb b = none := fun b hb hl => by
  rw [relab_old (fun e => by have := hn b e; omega), hl]

theorem relab_xfer {r : Nat} {p : Path} (hn : ∀ b, nb = some b → w.heap.size ≤ b) (hw : ∀ b, b < w.heap.size → w'.heap[b]? = w.heap[b]?) (hf : f r = some p) : Xfer lab (relab lab d f nb) w w' r [] d p none :=
  ⟨fun b hb hl => ⟨relab_shr hn b hb hl, hw b hb⟩, fun b q hb hl => ⟨by
    simp only [List.nil_append] at hl
    rw [relab_old (fun e => by have := hn b e; omega), hl]
    simp [hf, lessThan], hw b hb⟩⟩

theorem relab_keep {k : Nat} (hn : ∀ b, nb = some b → w.heap.size ≤ b) (hw : ∀ b, b < w.heap.size → w'.heap[b]? = w.heap[b]?) (hf : f k = none) : Keeps lab (relab lab d f nb) w w' k :=
  ⟨fun b hb hl => ⟨relab_shr hn b hb hl, hw b hb⟩, fun b q hb hl => ⟨by
    simp only [List.nil_append] at hl
    rw [relab_old (fun e => by have := hn b e; omega), hl]
    simp [hf, lessThan], hw b hb⟩⟩

end

theorem repV_cells {lab : Lab} {w : World} {t : Ty} {m : Nat} {x : den t} {u : Value} {r : Nat} {p : Path} (h : repV lab w t m x u r p) : u.cells.toList = cellsOf t u := by
  unfold cellsOf
  cases ha : t.agg with
  | true => rfl
  | false =>
    have hr := h.rep
    simp only [cellsOf, ha] at hr
    have := rep_oneCell hr u (by simp)
    cases u <;> simp_all [Value.cells, Value.oneCell']

theorem alloc_old (w : World) (o : Obj) : ∀ b, b < w.heap.size → (w.alloc o).heap[b]? = w.heap[b]? := fun _ hb => heap_alloc_old w o hb

theorem cellsAt_all (cs : Array Value) (n : Nat) (h : cs.size = n) : cellsAt cs 0 n = cs.toList := by
  subst h; simp [cellsAt, List.take_of_length_le]

/-- A pointer to a new block. -/
theorem rep_newptr {lab : Lab} {w : World} {t : Ty} {m : Nat} {x : den t} {d : Nat} {cs : Array Value} {e : TypeId} (hl : lab w.heap.size = some (d, [])) (hs : cs.size = t.cells)
    (h : rep lab (w.alloc (.cells cs e)) t m x cs.toList d [.d]) : repV lab (w.alloc (.cells cs e)) (.ptr t) (m + 1) x (.pointer (some ⟨w.heap.size, 0, none⟩)) d [] := by
  refine repV_lone rfl ?_
  simp only [rep]
  exact ⟨w.heap.size, 0, cs, e, (0, 0), rfl, heap_alloc_new w _, by omega, .inr ⟨by omega, hl, rfl, rfl, hs⟩, by rw [cellsAt_all cs _ hs]; exact h⟩

section
variable {P : Program} {c : Ctx} {l : Env} {o : Oper}

theorem Fr.alloc {W0 : World} {lab0 lab lab' : Lab} {w : World} (h : Fr W0 lab0 w lab) (ob : Obj) (hl : ∀ b, b < w.heap.size → lab b = none → lab' b = none) : Fr W0 lab0 (w.alloc ob) lab' :=
  h.next rfl rfl rfl (by simp) fun b hb hb' => ⟨hl b hb hb', alloc_old w ob b hb⟩

theorem nb_some {w : World} : ∀ b, some w.heap.size = some b → w.heap.size ≤ b := fun b h => by cases h; exact Nat.le_refl _
theorem nb_none {w : World} : ∀ b, (none : Option Nat) = some b → w.heap.size ≤ b := fun b h => by simp at h

/-- alloc: a variable of zeros. -/
theorem r_alloc {T : TypeId} {t : Ty} (ho : o.op = .alloc T) (hT : TyOK P T t) (hz : zeroOk t = true) : SR P c l o ⟨[], some (.val (.ptr t) (t.depth + 1) (zeroD t)), []⟩ := fun l' _ => by
  refine snd_value fun a w lab hR hd => ?_
  obtain ⟨⟨i, hi, hs, hzz⟩, _⟩ := hT
  obtain ⟨z, hz1, hz2⟩ := hzz hz
  have hlen : z.cells.size = t.cells := by
    have := rep_length (rep_zero (lab := lab) (w := w) (m := 0) (r := 0) (p := []) hz)
    rw [← hz2] at this; simpa using this
  refine ⟨.pointer (some ⟨w.heap.size, 0, none⟩), w.alloc (.cells z.cells T), ?_⟩
  cases hdst : o.dst with
  | none =>
    refine ⟨lab, by simp [execOp, ho, Instr.alloc, zeroValue, typeInfo, hi, hz1, newVar, newRow], ?_⟩
    simp only [after, applyUpd, Act.put]
    have := hR.change (a' := a) (w' := w.alloc (.cells z.cells T)) (lab' := lab) [] (by simp) hR.defers rfl (fun _ _ _ => rfl) (fun _ _ => rfl) (hR.fr.alloc _ fun _ _ h => h) (fun k _ _ => ⟨fun b hb hl => ⟨hl, alloc_old w _ b hb⟩, fun b q hb hl => ⟨by simpa [lessThan] using hl, alloc_old w _ b hb⟩⟩)
    simpa [purgeAll] using this
  | some d =>
    refine ⟨relab lab d (fun _ => none) (some w.heap.size), by simp [execOp, ho, Instr.alloc, zeroValue, typeInfo, hi, hz1, newVar, newRow], ?_⟩
    refine fin_val hR (hd.lt d hdst) (hd.fix d hdst) (hR.fr.alloc _ (relab_shr nb_some)) (fun k _ _ => relab_keep nb_some (alloc_old w _) rfl) ?_
    exact rep_newptr (by simp [relab]) hlen (by rw [hz2]; exact rep_zero hz)

theorem take_rd_agree {mv : List Nat} {ov : OV} {v : V} {up : List (Nat × Option AX)} (_ : take mv ov = some (v, up)) : True := trivial

/-- assign: what an operand gives, into the slot. -/
theorem r_assign {x : Operand} {ov : OV} {v : V} {up : List (Nat × Option AX)} (mv : List Nat) (ho : o.op = .assign x ∨ o.op = .move x) (hx : view l x = some ov) (ht : take mv ov = some (v, up)) :
    SR P c l o ⟨ov.rd, some (.val v.t v.m v.x), up⟩ := fun l' ha => by
  have hs := seen_of_view (view_agree hx ha)
  refine snd_value fun a w lab hR hd => ?_
  obtain ⟨lab1, hR1, hv, hg⟩ := take_sound vroot hR hs ht
  cases hdst : o.dst with
  | none => exact ⟨a.eval x, w, lab1, by rcases ho with ho | ho <;> simp [execOp, ho], by simpa [after, Act.put] using hR1⟩
  | some d =>
    refine ⟨a.eval x, w, relab lab1 d (fun r => if r = vroot then some [] else none) none, by rcases ho with ho | ho <;> simp [execOp, ho], ?_⟩
    refine fin_val hR1 (hd.lt d hdst) (hd.fix d hdst) (hR1.fr.ghost (relab_shr nb_none)) (fun k hk hk2 => relab_keep nb_none (fun _ _ => rfl) (if_neg (by unfold vroot; omega))) ?_
    simpa [cutTo] using repV_xfer hv (relab_xfer (d := d) (f := fun r => if r = vroot then some [] else none) nb_none (fun _ _ => rfl) (by simp))

/-- box: a variable that begins as a value. -/
theorem r_box {T : TypeId} {x : Operand} {ov : OV} {v : V} {up : List (Nat × Option AX)} (mv : List Nat) (ho : o.op = .box T x) (hx : view l x = some ov) (ht : take mv ov = some (v, up)) :
    SR P c l o ⟨ov.rd, some (.val (.ptr v.t) (v.m + 1) v.x), up⟩ := fun l' ha => by
  have hs := seen_of_view (view_agree hx ha)
  refine snd_value fun a w lab hR hd => ?_
  obtain ⟨lab1, hR1, hv, hg⟩ := take_sound vroot hR hs ht
  have hcells := repV_cells hv
  have hsize : (a.eval x).cells.size = v.t.cells := by
    have := rep_length hv.rep
    rw [← hcells] at this; simpa using this
  have hrun : (execOp a.eval o).run P w = .ok (.value (.pointer (some ⟨w.heap.size, 0, none⟩))) (w.alloc (.cells (a.eval x).cells T)) := by simp [execOp, ho, Instr.box, newVar, newRow]
  cases hdst : o.dst with
  | none =>
    refine ⟨_, _, lab1, hrun, ?_⟩
    simp only [after, Act.put]
    have := hR1.change (a' := a) (w' := w.alloc (.cells (a.eval x).cells T)) (lab' := lab1) [] (by simp) hR1.defers rfl (fun _ _ _ => rfl) (fun _ _ => rfl) (hR1.fr.alloc _ fun _ _ h => h) (fun k _ _ => ⟨fun b hb hl => ⟨hl, alloc_old w _ b hb⟩, fun b q hb hl => ⟨by simpa [lessThan] using hl, alloc_old w _ b hb⟩⟩)
    simpa [purgeAll] using this
  | some d =>
    refine ⟨_, _, relab lab1 d (fun r => if r = vroot then some [.d] else none) (some w.heap.size), hrun, ?_⟩
    refine fin_val hR1 (hd.lt d hdst) (hd.fix d hdst) (hR1.fr.alloc _ (relab_shr nb_some)) (fun k hk hk2 => relab_keep nb_some (alloc_old w _) (if_neg (by unfold vroot; omega))) ?_
    refine rep_newptr (by simp [relab]) hsize ?_
    rw [hcells]
    simpa [cutTo] using rep_xfer hv.rep (relab_xfer (d := d) (f := fun r => if r = vroot then some [.d] else none) nb_some (alloc_old w (.cells (a.eval x).cells T)) (by simp))

end

/-- A level of ownership that may be called m'. -/
def okM (t : Ty) (m m' : Nat) : Bool := Nat.beq t.depth 0 || Nat.beq m m' || (Nat.ble t.depth m && Nat.ble t.depth m')

theorem rep_okM {lab : Lab} {w : World} {t : Ty} {m m' : Nat} {x : den t} {us : List Value} {r : Nat} {p : Path} (h : okM t m m' = true) (hr : rep lab w t m x us r p) : rep lab w t m' x us r p := by
  simp only [okM, Bool.or_eq_true, Bool.and_eq_true] at h
  rcases h with (h | h) | ⟨h1, h2⟩
  · exact rep_flat (Nat.eq_of_beq_eq_true h) hr
  · rw [← Nat.eq_of_beq_eq_true h]; exact hr
  · exact rep_full (Nat.le_of_ble_eq_true h1) (Nat.le_of_ble_eq_true h2) hr

def setF : (t : Ty) → Nat → den t → (tf : Ty) → den tf → Option (den t)
  | .prod a _, 0, x, tf, y => match decEq tf a with | .isTrue h => some (h ▸ y, x.2) | .isFalse _ => none
  | .prod _ b, n + 1, x, tf, y => match setF b n x.2 tf y with | some z => some (x.1, z) | none => none
  | _, _, _, _, _ => none

def splice (us : List Value) (o : Nat) (vs : List Value) : List Value := us.take o ++ vs ++ us.drop (o + vs.length)

theorem rep_setF {lab : Lab} {w : World} : ∀ {n : Nat} {t : Ty} {m : Nat} {x x' : den t} {us : List Value} {r : Nat} {p : Path} {tf : Ty} {y : den tf} {o : Nat} {vs : List Value}, rep lab w t m x us r p → setF t n x tf y = some x' → foff t n = some o →
    rep lab w tf m y vs r (p ++ fpath n) → rep lab w t m x' (splice us o vs) r p ∧ fty t n = some tf := by
  intro n
  induction n with
  | zero =>
    intro t m x x' us r p tf y o vs h hs ho hv
    cases t with
    | prod a b =>
      simp only [setF] at hs
      split at hs
      · rename_i _ hta _
        subst hta
        simp only [Option.some.injEq] at hs
        subst hs
        simp only [foff, Option.some.injEq] at ho
        subst ho
        simp only [rep] at h ⊢
        obtain ⟨u1, u2, rfl, h1, h2, h3⟩ := h
        have hlen := rep_length hv
        refine ⟨⟨vs, u2, ?_, hlen, hv, h3⟩, rfl⟩
        simp only [splice, List.take_zero, List.nil_append, Nat.zero_add]
        rw [hlen, ← h1, List.drop_left]
      · simp at hs
    | _ => simp [setF] at hs
  | succ n ih =>
    intro t m x x' us r p tf y o vs h hs ho hv
    cases t with
    | prod a b =>
      simp only [setF] at hs
      split at hs
      · rename_i z hz
        simp only [Option.some.injEq] at hs
        subst hs
        simp only [foff] at ho
        split at ho
        · rename_i o' ho'
          simp only [Option.some.injEq] at ho
          subst ho
          simp only [rep] at h ⊢
          obtain ⟨u1, u2, rfl, h1, h2, h3⟩ := h
          obtain ⟨h4, h5⟩ := ih h3 hz ho' (by simpa [fpath] using hv)
          refine ⟨⟨u1, splice u2 o' vs, ?_, h1, h2, h4⟩, h5⟩
          simp only [splice]
          rw [← h1, Nat.add_assoc, List.take_append, List.drop_append, List.take_of_length_le (by omega), List.drop_of_length_le (by omega)]
          simp
        · simp at ho
      · simp at hs
    | _ => simp [setF] at hs

theorem foldl_set (vs : List Value) : ∀ (cells : Array Value) (off k : Nat), off + k + vs.length ≤ cells.size →
    ((vs.zipIdx k).foldl (fun cs (x : Value × Nat) => cs.setIfInBounds (off + x.2) x.1) cells).toList = splice cells.toList (off + k) vs := by
  induction vs with
  | nil => intro cells off k h; simp [splice]
  | cons v vs ih =>
    intro cells off k h
    simp only [List.length_cons] at h
    simp only [List.zipIdx_cons, List.foldl_cons]
    rw [ih _ off (k + 1) (by simp; omega)]
    have hlt : off + k < cells.toList.length := by simp; omega
    have hl : (cells.toList.take (off + k)).length = off + k := by simp; omega
    simp only [splice, Array.toList_setIfInBounds, List.length_cons, List.set_eq_take_append_cons_drop, if_pos hlt]
    rw [show off + (k + 1) = (cells.toList.take (off + k)).length + 1 by omega, List.take_append, List.drop_append]
    simp only [hl]
    rw [List.take_of_length_le (by omega), show off + k + 1 - (off + k) = 1 by omega]
    rw [List.drop_of_length_le (show (cells.toList.take (off + k)).length ≤ off + k + 1 + vs.length by omega)]
    rw [show off + k + 1 + vs.length - (off + k) = vs.length + 1 by omega]
    simp only [List.take_succ_cons, List.take_zero, List.drop_succ_cons, List.drop_drop, List.append_assoc, List.cons_append, List.nil_append]
    rw [show off + k + 1 + vs.length = off + k + (vs.length + 1) by omega]

end Go.Abs
