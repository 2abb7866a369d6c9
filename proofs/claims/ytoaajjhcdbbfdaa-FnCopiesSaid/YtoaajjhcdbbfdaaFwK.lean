/- The framework: walks of code that keep plain values. -/
import Derived.Test.YtoaajjhcdbbfdaaFwJ
set_option linter.unusedSimpArgs false
set_option linter.unnecessarySimpa false
set_option linter.unusedVariables false
namespace Go.Abs

theorem repl_agg : ∀ {p : Path} {t : Ty} {x : den t} {s : Ty} {y : den s} {t2 : Ty} {x2 : den t2}, p ≠ [] → repl p t x s y = some ⟨t2, x2⟩ → t2.agg = t.agg := by
  intro p t x s y t2 x2 hp hh
  cases p with
  | nil => exact absurd rfl hp
  | cons st q =>
    cases st with
    | l =>
      cases t with
      | prod a b =>
        simp only [repl] at hh
        split at hh
        · simp only [Option.some.injEq, Sigma.mk.injEq] at hh; obtain ⟨rfl, _⟩ := hh; rfl
        · simp at hh
      | _ => simp [repl] at hh
    | r =>
      cases t with
      | prod a b =>
        simp only [repl] at hh
        split at hh
        · simp only [Option.some.injEq, Sigma.mk.injEq] at hh; obtain ⟨rfl, _⟩ := hh; rfl
        · simp at hh
      | _ => simp [repl] at hh
    | d =>
      cases t with
      | ptr a =>
        simp only [repl] at hh
        split at hh
        · simp only [Option.some.injEq, Sigma.mk.injEq] at hh; obtain ⟨rfl, _⟩ := hh; rfl
        · simp at hh
      | _ => simp [repl] at hh
    | e i =>
      cases t with
      | slc a =>
        simp only [repl] at hh
        split at hh
        · split at hh
          · split at hh
            · simp only [Option.some.injEq, Sigma.mk.injEq] at hh; obtain ⟨rfl, _⟩ := hh; rfl
            · simp at hh
          · simp at hh
        · simp at hh
      | _ => simp [repl] at hh

theorem run_storeAt_mem {P : Program} {T : TypeId} {t : Ty} (h : TyOK P T t) {w : World} {g o : Nat} {cur : Array Value} {e : TypeId} (hg : w.heap[g]? = some (.cells cur e (0, 0))) {v : Value} {vs : List Value} (hv : v.cells.toList = vs)
    (hl : vs.length = t.cells) (h1 : ∀ u ∈ vs, u.oneCell' = true) (hfit : o + vs.length ≤ cur.size) :
    (Instr.storeAt T (.pointer (some ⟨g, o, none⟩)) v).run P w = .ok () (w.setRow g (splice cur.toList o vs).toArray) := by
  subst hv
  have hst := run_storeCells_at P g o e v.cells.toList 0 cur w hg (by simpa using hfit) h1
  simp only [Nat.add_zero] at hst
  have hne : ¬ v.cells.size ≠ t.cells := by simpa using hl
  simp only [Instr.storeAt, Instr.sureAddr, storeVar, Sem.run_bind, Sem.run_pure, Result.andThen_ok, run_sizeOf_ok h, if_neg hne]
  exact hst

theorem setRow_old {w : World} {g : Nat} {cs : Array Value} : ∀ b, b < w.heap.size → b ≠ g → (w.setRow g cs).heap[b]? = w.heap[b]? := fun b _ hne => setRow_other w g b cs hne

section
variable {P : Program} {c : Ctx} {l : Env} {o : Oper}

theorem r_storeC {T : TypeId} {addr x : Operand} {oa : OV} {g : Tgt} {ox : OV} {v0 v : V} {up : List (Nat × Option AX)} {t' : Ty} {x' : den t'} {t2 : Ty} {x2 : den t2} (mv : List Nat) (ho : o.op = .store T addr x) (hdn : o.dst = none)
    (ha : view l addr = some oa) (hg : target oa = some g) (hx : view l x = some ox) (ht : take mv ox = some (v0, up)) (hcast : ∀ lab w u r, repV lab w v0.t v0.m v0.x u r [] → repV lab w v.t v.m v.x u r []) (hdj : disj (keys up) oa.rd = true) (hs : sub g.p g.t g.x = some ⟨t', x'⟩) (hT : TyOK P T v.t)
    (hc : Nat.beq v.t.cells t'.cells = true) (hm : okM v.t v.m (g.m - dep g.p) = true) (hdm : Nat.ble (dep g.p) g.m = true) (hr : repl g.p g.t g.x v.t v.x = some ⟨t2, x2⟩) :
    SR P c l o ⟨oa.rd ++ ox.rd, none, up ++ [(g.r, some (.val t2 g.m x2))]⟩ := fun l' hag => by
  have hseena := seen_of_view (view_agree ha (agree_left hag))
  have hseen := seen_of_view (view_agree hx (agree_right hag))
  have hc := Nat.eq_of_beq_eq_true hc
  have hdm := Nat.le_of_ble_eq_true hdm
  intro a w lab hR hd Q
  obtain ⟨lab1, hR1, hv, hgh⟩ := take_sound vroot hR hseen ht
  have hv := hcast _ _ _ _ hv
  obtain ⟨A, t1, us1, u, hh⟩ := target_hit hR1 (hseena.upd (disj_spec hdj)) hg
  obtain ⟨rfl, hrep, hmem⟩ := hit_sub hh hs
  have hdp : 0 < dep g.p := by
    rcases Nat.eq_zero_or_pos (dep g.p) with h0 | h0
    · obtain ⟨A0, h1, _⟩ := nav_block h0 hh.nav; simp at h1
    · exact h0
  obtain ⟨q1, q2, hq, hq2, hlab, cur, e, hcell⟩ := nav_label hh.rep.rep hh.nav hdp hdm
  simp only [List.nil_append] at hlab
  obtain ⟨gb, off, sp⟩ := A
  obtain ⟨hsp, cur', e', fz', hcell', hfit, hus⟩ := hmem
  simp only at hsp hcell' hcell hlab hfit
  subst hsp
  rw [hcell] at hcell'
  simp only [Option.some.injEq, Obj.cells.injEq] at hcell'
  obtain ⟨rfl, rfl, rfl⟩ := hcell'
  have hvc := repV_cells hv
  have hlen := rep_length hv.rep
  have hfit' : off + (cellsOf v.t (a.eval x)).length ≤ cur.size := by rw [hlen, hc]; exact hfit
  have hrun := run_storeAt_mem hT hcell (o := off) hvc hlen (rep_oneCell hv.rep) hfit'
  unfold Oper.wp
  have hex : (execOp a.eval o).run P w = .ok .skip (w.setRow gb (splice cur.toList off (cellsOf v.t (a.eval x))).toArray) := by simp [execOp, ho, hh.ptr, hrun]
  rw [hex, Oper.upon_skip, hdn]
  let lab2 := relab lab1 g.r (fun r => if r = vroot then some g.p else none) none
  have hgr : g.r < 1000000 := by
    have := (Array.getElem?_eq_some_iff.1 hh.root).1
    rw [hR.size] at this
    have := c.hn; omega
  have hother : ∀ k, k ≠ vroot → (fun r => if r = vroot then some g.p else none) k = none := fun k hk => if_neg hk
  have hheap : ∀ b, b < w.heap.size → b ≠ gb → (w.setRow gb (splice cur.toList off (cellsOf v.t (a.eval x))).toArray).heap[b]? = w.heap[b]? := setRow_old
  have hshr : ∀ b, b < w.heap.size → lab1 b = none → lab2 b = none := relab_shr nb_none
  have hsame : ∀ b r q, r ≠ vroot → lab1 b = some (r, q) → lab2 b = some (r, q) := fun b r q hr hl => by
    show relab _ _ _ _ b = _
    rw [relab_old (by simp), hl]
    simp [hr]
  have hsetsize : (w.setRow gb (splice cur.toList off (cellsOf v.t (a.eval x))).toArray).heap.size = w.heap.size := by simp [World.setRow]
  have hXv : Xfer lab1 lab2 w (w.setRow gb (splice cur.toList off (cellsOf v.t (a.eval x))).toArray) vroot [] g.r g.p none := by
    refine ⟨fun b hb hl => ⟨hshr b hb hl, hheap b hb fun he => by subst he; rw [hlab] at hl; simp at hl⟩, fun b q hb hl => ⟨?_, hheap b hb fun he => by
      subst he; rw [hlab] at hl
      simp only [Option.some.injEq, Prod.mk.injEq] at hl
      have := hl.1; unfold vroot at this; omega⟩⟩
    simp only [List.nil_append] at hl
    show relab _ _ _ _ b = _
    rw [relab_old (by simp), hl]
    simp [lessThan]
  have hval : Abs.rep lab2 (w.setRow gb (splice cur.toList off (cellsOf v.t (a.eval x))).toArray) v.t (g.m - dep g.p) v.x (cellsOf v.t (a.eval x)) g.r ([] ++ g.p) := by
    have := rep_okM hm (rep_xfer hv.rep hXv)
    simpa using this
  obtain ⟨hc2, hst⟩ := rep_store (A := none) (lab' := lab2) (vs := cellsOf v.t (a.eval x)) (pg := q1) hcell (setRow_heap w gb cur _ e (0, 0) hcell) (by simp) hfit' hheap hlab hshr (fun b q _ hl => hsame b g.r q (by unfold vroot; omega) hl) hlen hh.rep.rep trivial hh.nav hr hc hdm ⟨q2, by simpa using hq.symm⟩ (fun A0 h0 => by simp at h0) hval
  simp only [newCells] at hst
  have hpne : g.p ≠ [] := fun he => by rw [he] at hdp; simp [dep] at hdp
  have hag2 := repl_agg hpne hr
  refine ⟨lab2, ?_⟩
  simp only [after, applyUpd_append, applyUpd]
  have hce : cellsOf t2 u = cellsOf g.t u := by simp [cellsOf, hag2]
  refine hR1.put hh.mem hh.root ⟨fun hagg => hh.rep.shape (by rw [← hag2]; exact hagg), by rw [hce]; exact hst⟩ (by simpa [Act.put] using hR1.defers) (by simp [Act.put]) (fun _ => rfl) ?_ ?_
  · exact hR1.fr.next rfl rfl rfl (Nat.le_of_eq hsetsize.symm) fun b hb hl => ⟨hshr b hb hl, hheap b hb fun he => by subst he; rw [hlab] at hl; simp at hl⟩
  · intro k hk hk2
    refine ⟨fun b hb hl => ⟨hshr b hb hl, hheap b hb fun he => by subst he; rw [hlab] at hl; simp at hl⟩, fun b q hb hl => ⟨?_, hheap b hb fun he => by
      subst he; rw [hlab] at hl
      simp only [List.nil_append, Option.some.injEq, Prod.mk.injEq] at hl
      exact hk hl.1.symm⟩⟩
    simp only [List.nil_append] at hl ⊢
    simpa [lessThan] using hsame b k q (by unfold vroot; omega) hl

theorem r_store {T : TypeId} {addr x : Operand} {oa : OV} {g : Tgt} {ox : OV} {v : V} {up : List (Nat × Option AX)} {t' : Ty} {x' : den t'} {t2 : Ty} {x2 : den t2} (mv : List Nat) (ho : o.op = .store T addr x) (hdn : o.dst = none)
    (ha : view l addr = some oa) (hg : target oa = some g) (hx : view l x = some ox) (ht : take mv ox = some (v, up)) (hdj : disj (keys up) oa.rd = true) (hs : sub g.p g.t g.x = some ⟨t', x'⟩) (hT : TyOK P T v.t)
    (hc : Nat.beq v.t.cells t'.cells = true) (hm : okM v.t v.m (g.m - dep g.p) = true) (hdm : Nat.ble (dep g.p) g.m = true) (hr : repl g.p g.t g.x v.t v.x = some ⟨t2, x2⟩) :
    SR P c l o ⟨oa.rd ++ ox.rd, none, up ++ [(g.r, some (.val t2 g.m x2))]⟩ :=
  r_storeC mv ho hdn ha hg hx ht (fun _ _ _ _ h => h) hdj hs hT hc hm hdm hr

end
end Go.Abs
