/- The framework: walks of code that keep plain values. -/
import Derived.Test.YtoaajjhcdbbfdaaFwW
set_option linter.unusedSimpArgs false
set_option linter.unnecessarySimpa false
set_option linter.unusedVariables false
namespace Go.Abs

theorem shr_of_slc {lab : Lab} {w : World} {e : Ty} {m : Nat} {xs : List (den e)} {us : List Value} {r r' : Nat} {p p' : Path} (hm : m ≤ 1000) (h : rep lab w (.slc e) 0 xs us r p) : rep lab w (.shr e) m xs us r' p' := by
  simp only [rep] at h ⊢
  obtain ⟨base, cap, h1, hc, hmx, h⟩ := h
  refine ⟨base, cap, h1, hc, hmx, ?_⟩
  rcases h with h | ⟨g, off, cur, ee, fz, rfl, hg, hsz, hown, hel⟩
  · exact .inl h
  · have hl : lab g = none := by
      rcases hown with ⟨_, ho⟩ | ⟨h0, _⟩
      · exact ho
      · omega
    exact .inr ⟨hm, g, off, cur, ee, fz, rfl, hg, hsz, hl, fun i hi => rep_shared (hel i hi)⟩

theorem slc_of_shr {lab : Lab} {w : World} {e : Ty} {m : Nat} {xs : List (den e)} {us : List Value} {r r' : Nat} {p p' : Path} (h : rep lab w (.shr e) m xs us r p) : rep lab w (.slc e) 0 xs us r' p' := by
  simp only [rep] at h ⊢
  obtain ⟨base, cap, h1, hc, hmx, h⟩ := h
  refine ⟨base, cap, h1, hc, hmx, ?_⟩
  rcases h with h | ⟨_, g, off, cur, ee, fz, rfl, hg, hsz, hl, hel⟩
  · exact .inl h
  · exact .inr ⟨g, off, cur, ee, fz, rfl, hg, hsz, .inl ⟨by simp, hl⟩, fun i hi => rep_shared (hel i hi)⟩

/-- A datum's type with its slices shared. -/
def toShr : Ty → Ty
  | .prod a b => .prod (toShr a) (toShr b)
  | .slc e => .shr e
  | t => t
def toShrD : (t : Ty) → den t → den (toShr t)
  | .prod a b, x => (toShrD a x.1, toShrD b x.2)
  | .slc _, x => x
  | .int _, x => x
  | .bool, x => x
  | .str, x => x
  | .raw, x => x
  | .unit, x => x
  | .hole, x => x
  | .ptr _, x => x
  | .opt _, x => x
  | .may _, x => x
  | .shr _, x => x
/-- Types without pointers outside their slices. -/
def shrOk : Ty → Bool
  | .prod a b => shrOk a && shrOk b
  | .ptr _ => false
  | .opt _ => false
  | .may _ => false
  | .shr _ => false
  | _ => true
def stripS : Ty → Ty
  | .prod a b => .prod (stripS a) (stripS b)
  | .shr e => .slc e
  | t => t
def stripD : (t : Ty) → den t → den (stripS t)
  | .prod a b, x => (stripD a x.1, stripD b x.2)
  | .slc _, x => x
  | .int _, x => x
  | .bool, x => x
  | .str, x => x
  | .raw, x => x
  | .unit, x => x
  | .hole, x => x
  | .ptr _, x => x
  | .opt _, x => x
  | .may _, x => x
  | .shr _, x => x

theorem toShr_cells : ∀ t : Ty, (toShr t).cells = t.cells
  | .prod a b => by simp [toShr, Ty.cells, toShr_cells a, toShr_cells b]
  | .slc _ | .int _ | .bool | .str | .raw | .unit | .hole | .ptr _ | .opt _ | .may _ | .shr _ => rfl
theorem toShr_agg : ∀ t : Ty, (toShr t).agg = t.agg
  | .prod _ _ | .slc _ | .int _ | .bool | .str | .raw | .unit | .hole | .ptr _ | .opt _ | .may _ | .shr _ => rfl
theorem stripS_cells : ∀ t : Ty, (stripS t).cells = t.cells
  | .prod a b => by simp [stripS, Ty.cells, stripS_cells a, stripS_cells b]
  | .slc _ | .int _ | .bool | .str | .raw | .unit | .hole | .ptr _ | .opt _ | .may _ | .shr _ => rfl
theorem stripS_agg : ∀ t : Ty, (stripS t).agg = t.agg
  | .prod _ _ | .slc _ | .int _ | .bool | .str | .raw | .unit | .hole | .ptr _ | .opt _ | .may _ | .shr _ => rfl

theorem rep_toShr {lab : Lab} {w : World} {m : Nat} (hm : m ≤ 1000) : ∀ {t : Ty} {x : den t} {us : List Value} {r r' : Nat} {p p' : Path}, shrOk t = true → rep lab w t 0 x us r p → rep lab w (toShr t) m (toShrD t x) us r' p'
  | .prod a b, x, us, r, r', p, p', hs, h => by
    simp only [shrOk, Bool.and_eq_true] at hs
    simp only [rep, toShr, toShrD] at h ⊢
    obtain ⟨u1, u2, rfl, h1, h2, h3⟩ := h
    exact ⟨u1, u2, rfl, by rw [h1, toShr_cells], rep_toShr hm hs.1 h2, rep_toShr hm hs.2 h3⟩
  | .slc e, x, us, r, r', p, p', _, h => shr_of_slc hm h
  | .int _, _, _, _, _, _, _, _, h => h
  | .bool, _, _, _, _, _, _, _, h => h
  | .str, _, _, _, _, _, _, _, h => h
  | .raw, _, _, _, _, _, _, _, h => h
  | .unit, _, _, _, _, _, _, _, h => h
  | .hole, _, _, _, _, _, _, _, h => h

theorem rep_strip {lab : Lab} {w : World} : ∀ {t : Ty} {x : den t} {us : List Value} {r r' : Nat} {p p' : Path}, rep lab w t 0 x us r p → rep lab w (stripS t) 0 (stripD t x) us r' p'
  | .prod a b, x, us, r, r', p, p', h => by
    simp only [rep, stripS, stripD] at h ⊢
    obtain ⟨u1, u2, rfl, h1, h2, h3⟩ := h
    exact ⟨u1, u2, rfl, by rw [h1, stripS_cells], rep_strip h2, rep_strip h3⟩
  | .shr e, x, us, r, r', p, p', h => slc_of_shr h
  | .slc _, _, _, _, _, _, _, h => rep_shared h
  | .ptr _, _, _, _, _, _, _, h => rep_shared h
  | .opt _, _, _, _, _, _, _, h => rep_shared h
  | .may _, _, _, _, _, _, _, h => rep_shared h
  | .int _, _, _, _, _, _, _, h => h
  | .bool, _, _, _, _, _, _, h => h
  | .str, _, _, _, _, _, _, h => h
  | .raw, _, _, _, _, _, _, h => h
  | .unit, _, _, _, _, _, _, h => h
  | .hole, _, _, _, _, _, _, h => h

theorem castV_shr {t : Ty} {x : den t} {m : Nat} (hm : Nat.ble m 1000 = true) (hs : shrOk t = true) : CastV ⟨t, 0, x⟩ ⟨toShr t, m, toShrD t x⟩ := fun lab w u r p h => by
  refine ⟨fun ha => h.shape (by rw [← toShr_agg]; exact ha), ?_⟩
  have e : cellsOf (toShr t) u = cellsOf t u := by simp [cellsOf, toShr_agg]
  show rep lab w (toShr t) m (toShrD t x) (cellsOf (toShr t) u) r p
  rw [e]
  exact rep_toShr (Nat.le_of_ble_eq_true hm) hs h.rep

theorem castV_strip {t : Ty} {x : den t} : CastV ⟨t, 0, x⟩ ⟨stripS t, 0, stripD t x⟩ := fun lab w u r p h => by
  refine ⟨fun ha => h.shape (by rw [← stripS_agg]; exact ha), ?_⟩
  have e : cellsOf (stripS t) u = cellsOf t u := by simp [cellsOf, stripS_agg]
  show rep lab w (stripS t) 0 (stripD t x) (cellsOf (stripS t) u) r p
  rw [e]
  exact rep_strip h.rep

theorem Meets.castIn {P : Program} {f : FuncId} {xs2 xs ys xs' : List V} (hc : CastAll xs xs2) (h : Meets P f xs2 ys xs') : Meets P f xs ys xs' := fun W lab us hargs => by
  obtain ⟨h1, h2⟩ := hc.get
  exact h W lab us ⟨hargs.1.trans h1, fun i hi hi' => h2 i (by omega) hi _ _ _ _ _ (hargs.2 i (by omega) hi')⟩

section
variable {P : Program} {c : Ctx} {l : Env} {Q : Exit → Env → Prop} {o : Oper}

/-- A tuple's parts, their ownership given up. -/
def tup0 (vs : List (Option V)) : List (Option V) := vs.map fun o => o.map fun v => ⟨v.t, 0, v.x⟩
theorem Rel.lowerTup {a : Act} {w : World} {lab : Lab} {k : Nat} {vs : List (Option V)} (h : Rel c l a w lab) (hk : (k, AX.tup vs) ∈ l) : ∃ lab', Rel c ((k, .tup (tup0 vs)) :: purge k false l) a w lab' := by
  obtain ⟨us, h1, h2, h3⟩ := h.vals _ _ hk
  have hshr : ∀ b, b < w.heap.size → lab b = none → freezeLab lab k 0 b = none := fun b _ hl => by simp [freezeLab, hl]
  refine ⟨freezeLab lab k 0, h.putTup (Nat.lt_of_lt_of_le (h.lt h1) c.hn) (h.fr.ghost hshr) (fun j hj _ => freezeLab_keep hj) ⟨us, h1, by simp [tup0, h2], fun i v hv => ?_⟩⟩
  simp only [tup0, List.getElem?_map] at hv
  cases hvi : vs[i]? with
  | none => simp [hvi] at hv
  | some o =>
    cases o with
    | none => simp [hvi] at hv
    | some v0 =>
      simp only [hvi, Option.map_some, Option.some.injEq] at hv
      subst hv
      obtain ⟨u, h4, h5⟩ := h3 i v0 hvi
      refine ⟨u, h4, ?_⟩
      have hx : Xfer lab (freezeLab lab k 0) w w k [.e i] k [.e i] (some 0) := ⟨fun b hb hl => ⟨hshr b hb hl, rfl⟩, fun b q hb hl => ⟨by simp [freezeLab, hl, lessThan], rfl⟩⟩
      simpa [cutTo] using repV_xfer h5 hx
theorem SR.lowerTup {rd : List Nat} {vs : List (Option V)} {up : List (Nat × Option AX)} (h : SR P c l o ⟨rd, some (.tup vs), up⟩) : SR P c l o ⟨rd, some (.tup (tup0 vs)), up⟩ := fun l' ha => by
  intro a w lab hR hd Q
  refine Oper.wp_mono ?_ (h l' ha a w lab hR hd Q)
  rintro a' w' ⟨lab', hR'⟩
  cases hdst : o.dst with
  | none => simp only [after, hdst] at hR' ⊢; exact ⟨lab', hR'⟩
  | some d =>
    simp only [after, hdst] at hR' ⊢
    obtain ⟨lab2, hR2⟩ := hR'.lowerTup (List.mem_cons_self ..)
    refine ⟨lab2, hR2.weaken fun kv hkv => ?_⟩
    rcases List.mem_cons.1 hkv with rfl | hkv
    · exact List.mem_cons_self ..
    · refine List.mem_cons_of_mem _ ?_
      simp only [purge, show Nat.beq d d = true from Nat.beq_refl d]
      exact mem_purge_iff.2 ⟨hkv, (mem_purge hkv).2.1, isRefTo_le (mem_purge hkv).2.2⟩

/-- A name for a root, read in any state. -/
theorem r_aliasF {k : Nat} (ho : o.op = .move (.tmp k)) : SR P c l o ⟨[], some (.ref k []), []⟩ := fun l' _ => by
  refine snd_value fun a w lab hR hd => ⟨a.eval (.tmp k), w, lab, by simp [execOp, ho], fin_alias hR hd fun d hdst l'' h1 h2 t m x hx => ?_⟩
  by_cases hk : k = d
  · subst hk; exact absurd (h2 _ _ _ hx) (by simp)
  · obtain ⟨u, hu, hrep⟩ := hR.vals _ _ (h1 _ hx hk)
    exact ⟨u, t, cellsOf t u, none, by rw [put_tmps_ne hk]; exact hu, rfl, by rw [mkV_cellsOf hrep.shape, eval_tmp hu]; exact put_tmps_eq (by rw [hR.size]; exact hd.lt d hdst)⟩

/-- A shared slice loaded out of an owned struct. -/
theorem r_loadS {T : TypeId} {x : Operand} {ov : OV} {g : Tgt} {e : Ty} {xs : List (den e)} (ho : o.op = .load T x) (hv : view l x = some ov) (hg : target ov = some g)
    (hs : sub g.p g.t g.x = some ⟨.shr e, xs⟩) (hT : TyOK P T (.slc e)) : SR P c l o ⟨ov.rd, some (.val (.slc e) 0 xs), []⟩ := fun l' ha => by
  have hseen := seen_of_view (view_agree hv ha)
  refine snd_value fun a w lab hR hd => ?_
  obtain ⟨A, t1, us1, u, hh⟩ := target_hit hR hseen hg
  obtain ⟨rfl, hr, hm⟩ := hit_sub hh hs
  have hm' : InMem w (.slc e) us1 (some A) := hm
  exact ⟨_, w, lab, by simp only [execOp, ho, hh.ptr, Sem.run_bind, run_loadAt_mem hT hm']; rfl, fin_free hR hd fun r p => repV_mk (slc_of_shr hr)⟩

/-- The beginning of an owned slice. -/
theorem r_cutOwn {T : TypeId} {x hi : Operand} {ov : OV} {up : List (Nat × Option AX)} {k2 : Option Nat} {i2 : IntKind} {m m2 : Nat} {e : Ty} {xs ys : List (den e)} {b : Int} (mv : List Nat) (ho : o.op = .slice T x none (some hi) none) (hv : view l x = some ov) (ht : take mv ov = some (⟨.slc e, m, xs⟩, up))
    (hhi : view l hi = some (.val k2 (.int i2) m2 b)) (hT : TyOK P T (.slc e)) (h : cut xs 0 b = some ys) : SR P c l o ⟨ov.rd ++ (OV.val k2 (.int i2) m2 b).rd, some (.val (.slc e) m ys), up⟩ := fun l' ha => by
  obtain ⟨⟨_, h1, h2⟩, rfl⟩ := cut_eq h
  have hs := seen_of_view (view_agree hv (agree_left ha))
  have hsh := seen_of_view (view_agree hhi (agree_right ha))
  obtain ⟨E, i, z, hS⟩ := slcOK hT
  refine snd_value fun act w lab hR hd => ?_
  have hb0 := seen_int hR hsh
  obtain ⟨lab1, hR1, hv1, hg⟩ := take_sound vroot hR hs ht
  have hr := hv1.rep
  simp only [rep, cellsOf, Ty.agg] at hr
  obtain ⟨base, cap, he, hc, hmx, hr⟩ := hr
  simp only [List.cons.injEq, and_true] at he
  have hb := run_bounds (P := P) (w := w) (low := none) (high := some (.int i2 b)) (.inl ⟨rfl, rfl⟩) (.inr ⟨i2, rfl⟩) (Int.le_refl 0) h1 h2 hc
  have hrun : (execOp act.eval o).run P w = .ok (.value (.slice base b.toNat cap)) w := by
    have h3 : (Instr.sliceAt T (.slice base xs.length cap) none (some (.int i2 b)) none).run P w = .ok (.slice base b.toNat cap) w := by
      unfold Instr.sliceAt
      simp only [Sem.run_bind, run_underlying hS.under, Result.andThen_ok]
      unfold Instr.slice
      simp only [Sem.run_bind, run_underlying hS.under, Result.andThen_ok, hb]
      simp [sizeOf, typeInfo, hS.info, hS.size]
      intro _
      cases base with
      | none => rfl
      | some A => simp only [Option.map_some]; unfold Addr.add; split <;> simp_all
    simp only [execOp, ho, he, Option.map_none, Option.map_some, hb0, Sem.run_bind, h3]
    rfl
  have hlen : ((xs.drop (0 : Int).toNat).take (b - 0).toNat).length = b.toNat := by simp; omega
  have hnew : repV lab1 w (.slc e) m ((xs.drop (0 : Int).toNat).take (b - 0).toNat) (.slice base b.toNat cap) vroot [] := by
    refine repV_lone rfl ?_
    simp only [rep]
    refine ⟨base, cap, by rw [hlen], by rw [hlen]; omega, hmx, ?_⟩
    rcases hr with ⟨rfl, rfl, rfl⟩ | ⟨g, off, cur, ee, fz, rfl, hg, hsz, hown, hel⟩
    · left; simp
    · right
      refine ⟨g, off, cur, ee, fz, rfl, hg, ?_, hown, fun j hj => ?_⟩
      · have h4 : ((xs.drop (0 : Int).toNat).take (b - 0).toNat).length * e.cells ≤ xs.length * e.cells := Nat.mul_le_mul_right _ (by rw [hlen]; omega)
        omega
      · have := hel j (by rw [hlen] at hj; omega)
        simpa using this
  cases hdst : o.dst with
  | none => exact ⟨_, w, lab1, hrun, by simpa [after, Act.put] using hR1⟩
  | some d =>
    refine ⟨_, w, relab lab1 d (fun r => if r = vroot then some [] else none) none, hrun, ?_⟩
    refine fin_val hR1 (hd.lt d hdst) (hd.fix d hdst) (hR1.fr.ghost (relab_shr nb_none)) (fun k hk hk2 => relab_keep nb_none (fun _ _ => rfl) (if_neg (by unfold vroot; omega))) ?_
    simpa [cutTo] using repV_xfer hnew (relab_xfer (d := d) (f := fun r => if r = vroot then some [] else none) nb_none (fun _ _ => rfl) (by simp))

/-- A state read otherwise, at an end. -/
def castQ (c : Ctx) (Q : Exit → Env → Prop) : Exit → Env → Prop
  | .normal, l => ∃ l2, CastTo c l l2 ∧ Q .normal l2
  | e, l => Q e l
theorem AW.post {code : Code} (h : AW P c code (castQ c Q) l) : AW P c code Q l := fun a w lab hR => by
  refine wp_mono (h a w lab hR) ?_
  rintro e a' w' ⟨l', lab', hq, hR'⟩
  cases e with
  | normal =>
    obtain ⟨l2, h1, h2⟩ := hq
    obtain ⟨lab2, h3⟩ := h1 _ _ _ hR'
    exact ⟨l2, lab2, h2, h3⟩
  | _ => exact ⟨l', lab', hq, hR'⟩
theorem CastTo.put (k : Nat) {t t' : Ty} {m m' : Nat} {x : den t} {x' : den t'} (hk : look l k = some (.val t m x)) (hc : ∀ lab w u r, repV lab w t m x u r [] → repV lab w t' m' x' u r []) : CastTo c l ((k, .val t' m' x') :: purge k false l) := fun a w lab hR => by
  obtain ⟨u, hu, hrep⟩ := hR.vals _ _ (look_mem hk)
  exact ⟨lab, hR.put (look_mem hk) hu (hc _ _ _ _ hrep) hR.defers rfl (fun _ => rfl) hR.fr (fun j _ _ => Keeps.refl lab w j)⟩

/-- An element's slice that may be moved out. -/
def mayL {A B C : Type} (xs : List (A × B × C)) : List (A × (Value ⊕ B) × C) := xs.map fun o => (o.1, .inr o.2.1, o.2.2)
def unmay1 {A B C : Type} : A × (Value ⊕ B) × C → Option (A × B × C)
  | (a, .inr b, c) => some (a, b, c)
  | (_, .inl _, _) => none
def unmayL {A B C : Type} : List (A × (Value ⊕ B) × C) → Option (List (A × B × C))
  | [] => some []
  | x :: xs => match unmay1 x with
    | some y => match unmayL xs with | some ys => some (y :: ys) | none => none
    | none => none

theorem unmayL_get {A B C : Type} : ∀ {xs : List (A × (Value ⊕ B) × C)} {ys : List (A × B × C)}, unmayL xs = some ys → xs = mayL ys
  | [], ys, h => by simp only [unmayL, Option.some.injEq] at h; subst h; rfl
  | x :: xs, ys, h => by
    simp only [unmayL] at h
    split at h
    · rename_i y hy
      split at h
      · rename_i zs hz
        simp only [Option.some.injEq] at h
        subst h
        obtain ⟨a, b, c⟩ := x
        cases b with
        | inl _ => simp [unmay1] at hy
        | inr b =>
          simp only [unmay1, Option.some.injEq] at hy
          subst hy
          simp [mayL, unmayL_get hz]
      · simp at h
    · simp at h

theorem rep_slc_map {lab : Lab} {w : World} {t t' : Ty} {m : Nat} {xs : List (den t)} {f : den t → den t'} {us : List Value} {r : Nat} {p : Path} (hc : t'.cells = t.cells) (h : ∀ y us p, y ∈ xs → rep lab w t (m - 1) y us r p → rep lab w t' (m - 1) (f y) us r p)
    (hr : rep lab w (.slc t) m xs us r p) : rep lab w (.slc t') m (xs.map f) us r p := by
  simp only [rep] at hr ⊢
  obtain ⟨base, cap, rfl, h1, h2, h3⟩ := hr
  refine ⟨base, cap, by simp, by simpa using h1, h2, ?_⟩
  rcases h3 with ⟨rfl, rfl, rfl⟩ | ⟨g, off, cur, ee, fz, rfl, hg, hsz, hown, hel⟩
  · left; simp
  · right
    refine ⟨g, off, cur, ee, fz, rfl, hg, by rw [hc]; simpa using hsz, by rw [hc]; exact hown, fun i hi => ?_⟩
    have hi' : i < xs.length := by simpa using hi
    rw [List.getElem_map, hc]
    exact h _ _ _ (List.getElem_mem hi') (hel i hi')

theorem rep_may {lab : Lab} {w : World} {e : Ty} {m : Nat} {y : List (den e)} {us : List Value} {r : Nat} {p : Path} : rep lab w (.slc e) m y us r p ↔ rep lab w (.may (.slc e)) m (.inr y) us r p := by
  constructor
  · intro h
    have h1 := rep_length h
    match us, h1 with
    | [v], _ => exact .inr ⟨y, v, rfl, rfl, h⟩
  · intro h
    rcases h with ⟨_, h, _⟩ | ⟨z, v, h1, _, h2⟩
    · cases h
    · cases h1; exact h2

theorem cast_may {e : Ty} {m : Nat} {xs : List (den e)} : ∀ lab w u r, repV lab w (.slc e) m xs u r [] → repV lab w (.may (.slc e)) m (.inr xs) u r [] := fun _ _ _ _ h => ⟨fun h => by simp [Ty.agg] at h, rep_may.1 h.rep⟩
theorem cast_unmay {e : Ty} {m : Nat} {xs : List (den e)} : ∀ lab w u r, repV lab w (.may (.slc e)) m (.inr xs) u r [] → repV lab w (.slc e) m xs u r [] := fun _ _ _ _ h => ⟨fun h => by simp [Ty.agg] at h, rep_may.2 h.rep⟩

theorem rep_mayEl {lab : Lab} {w : World} {j u e : Ty} {m : Nat} {y : den j × List (den e) × den u} {us : List Value} {r : Nat} {p : Path} : rep lab w (.prod j (.prod (.slc e) u)) m y us r p ↔ rep lab w (.prod j (.prod (.may (.slc e)) u)) m (y.1, .inr y.2.1, y.2.2) us r p := by
  simp only [rep]
  constructor
  · rintro ⟨u1, u2, rfl, h1, h2, u3, u4, rfl, h3, h4, h5⟩
    exact ⟨u1, _, rfl, h1, h2, u3, u4, rfl, h3, rep_may.1 h4, h5⟩
  · rintro ⟨u1, u2, rfl, h1, h2, u3, u4, rfl, h3, h4, h5⟩
    exact ⟨u1, _, rfl, h1, h2, u3, u4, rfl, h3, rep_may.2 h4, h5⟩

theorem cast_alg_may {i j u e v : Ty} {m : Nat} {x : den i × List (den j × List (den e) × den u) × den v} : ∀ lab w z r, repV lab w (.ptr (.prod i (.prod (.slc (.prod j (.prod (.slc e) u))) v))) m x z r [] →
    repV lab w (.ptr (.prod i (.prod (.slc (.prod j (.prod (.may (.slc e)) u))) v))) m (x.1, (mayL x.2.1, x.2.2)) z r [] := fun lab w z r h =>
  repV_ptr_map (t := .prod i (.prod (.slc (.prod j (.prod (.slc e) u))) v)) (t' := .prod i (.prod (.slc (.prod j (.prod (.may (.slc e)) u))) v)) (x := x) (x' := (x.1, (mayL x.2.1, x.2.2))) rfl (fun us p h => by
    obtain ⟨u1, u2, rfl, h1, h2, u3, u4, rfl, h3, h4, h5⟩ := h
    exact ⟨u1, _, rfl, h1, h2, u3, u4, rfl, h3, rep_slc_map (t := .prod j (.prod (.slc e) u)) (t' := .prod j (.prod (.may (.slc e)) u)) (f := fun o => (o.1, .inr o.2.1, o.2.2)) rfl (fun y us p _ hy => rep_mayEl.1 hy) h4, h5⟩) h

theorem cast_alg_unmay {i j u e v : Ty} {m : Nat} {x : den i × List (den j × (Value ⊕ List (den e)) × den u) × den v} {ys : List (den j × List (den e) × den u)} (hy : unmayL x.2.1 = some ys) : ∀ lab w z r, repV lab w (.ptr (.prod i (.prod (.slc (.prod j (.prod (.may (.slc e)) u))) v))) m x z r [] →
    repV lab w (.ptr (.prod i (.prod (.slc (.prod j (.prod (.slc e) u))) v))) m (x.1, (ys, x.2.2)) z r [] := fun lab w z r h =>
  repV_ptr_map (t := .prod i (.prod (.slc (.prod j (.prod (.may (.slc e)) u))) v)) (t' := .prod i (.prod (.slc (.prod j (.prod (.slc e) u))) v)) (x := x) (x' := (x.1, (ys, x.2.2))) rfl (fun us p h => by
    obtain ⟨u1, u2, rfl, h1, h2, u3, u4, rfl, h3, h4, h5⟩ := h
    refine ⟨u1, _, rfl, h1, h2, u3, u4, rfl, h3, ?_, h5⟩
    have h4' : rep lab w (.slc (.prod j (.prod (.may (.slc e)) u))) (m - 1) (mayL ys) u3 r (p ++ [.r] ++ [.l]) := by rw [← unmayL_get hy]; exact h4
    have := rep_slc_map (t := .prod j (.prod (.may (.slc e)) u)) (t' := .prod j (.prod (.slc e) u)) (f := fun (o : den j × (Value ⊕ List (den e)) × den u) => (o.1, o.2.1.elim (fun _ => []) id, o.2.2)) rfl (fun y us p hm hy => by
      obtain ⟨z, _, rfl⟩ := List.mem_map.1 hm
      exact rep_mayEl.2 hy) h4'
    have e1 : (mayL ys).map (fun (o : den j × (Value ⊕ List (den e)) × den u) => (o.1, o.2.1.elim (fun _ => []) id, o.2.2)) = ys := by
      clear this h4' h4 hy
      unfold mayL
      rw [List.map_map]
      exact (List.map_congr_left (g := id) fun a _ => rfl).trans (List.map_id ys)
    rw [e1] at this
    exact this) h


/-- A datum with a part's cell known, the part gone. -/
def carve (u : Value) : (p : Path) → (t : Ty) → den t → Option (den t)
  | [], .may _, .inr _ => some (.inl u)
  | .l :: p, .prod a _, x => match carve u p a x.1 with | some z => some (z, x.2) | none => none
  | .r :: p, .prod _ b, x => match carve u p b x.2 with | some z => some (x.1, z) | none => none
  | .e i :: p, .slc t, xs => match xs[i]? with
    | some x => match carve u p t x with | some z => some (xs.set i z) | none => none
    | none => none
  | .d :: p, .ptr t, x => carve u p t x
  | _, _, _ => none

theorem rep_carve {lab : Lab} {w : World} {i : Nat} {u : Value} : ∀ {q : Path} {t : Ty} {m : Nat} {x x2 : den t} {us : List Value} {r : Nat} {p : Path} {A : Option Addr} {t' : Ty} {A' : Option Addr},
    rep lab w t m x us r p → carve u q t x = some x2 → nav w q t us A = some (t', [u], A') → rep (moveLab lab r (p ++ q) i) w t m x2 us r p := by
  intro q
  have other : ∀ {r : Nat} {p q : Path} {s s' : Step}, s ≠ s' → Xfer lab (moveLab lab r (p ++ s :: q) i) w w r (p ++ [s']) r (p ++ [s']) none := fun {r p q s s'} hne =>
    ⟨fun b _ hl => ⟨by simp [moveLab, hl], rfl⟩, fun b z _ hl => ⟨by
      simp only [moveLab, hl, if_true, List.append_assoc, List.cons_append, List.nil_append, strip_none hne, lessThan], rfl⟩⟩
  induction q with
  | nil =>
    intro t m x x2 us r p A t' A' h hh hn
    cases t with
    | may t =>
      cases x with
      | inl _ => simp [carve] at hh
      | inr y =>
        simp only [carve, Option.some.injEq] at hh
        subst hh
        have h1 := rep_oneCell h
        simp only [nav, Option.some.injEq, Prod.mk.injEq] at hn
        obtain ⟨_, rfl, _⟩ := hn
        exact .inl ⟨u, rfl, rfl, h1 u (by simp)⟩
    | _ => simp [carve] at hh
  | cons st q ih =>
    intro t m x x2 us r p A t' A' h hh hn
    cases st with
    | l =>
      cases t with
      | prod a b =>
        simp only [carve] at hh
        split at hh
        · rename_i z hz
          simp only [Option.some.injEq] at hh
          subst hh
          simp only [rep] at h ⊢
          obtain ⟨u1, u2, rfl, h1, h2, h3⟩ := h
          simp only [nav] at hn
          rw [← h1, List.take_left] at hn
          exact ⟨u1, u2, rfl, h1, by simpa using ih h2 hz hn, rep_xfer h3 (other (by simp))⟩
        · simp at hh
      | _ => simp [carve] at hh
    | r =>
      cases t with
      | prod a b =>
        simp only [carve] at hh
        split at hh
        · rename_i z hz
          simp only [Option.some.injEq] at hh
          subst hh
          simp only [rep] at h ⊢
          obtain ⟨u1, u2, rfl, h1, h2, h3⟩ := h
          simp only [nav] at hn
          rw [← h1, List.drop_left] at hn
          exact ⟨u1, u2, rfl, h1, rep_xfer h2 (other (by simp)), by simpa using ih h3 hz hn⟩
        · simp at hh
      | _ => simp [carve] at hh
    | e j =>
      cases t with
      | slc t =>
        simp only [carve] at hh
        split at hh
        case h_2 => simp at hh
        rename_i y hy
        split at hh
        case h_2 => simp at hh
        rename_i z hz
        simp only [Option.some.injEq] at hh
        subst hh
        obtain ⟨hj, rfl⟩ := List.getElem?_eq_some_iff.1 hy
        simp only [rep] at h ⊢
        obtain ⟨base, cap, rfl, hc, hm, h⟩ := h
        refine ⟨base, cap, by simp, by simpa using hc, hm, ?_⟩
        rcases h with ⟨_, h, _⟩ | ⟨g, off, cur, e, fz, rfl, hg, hsz, ho, hr⟩
        · subst h; simp at hj
        · simp only [nav, hg, hj, if_true] at hn
          refine .inr ⟨g, off, cur, e, fz, rfl, hg, by simpa using hsz, ?_, fun i' hi' => ?_⟩
          · rcases ho with ⟨h6, h7⟩ | ⟨h6, h7, h8⟩
            · exact .inl ⟨h6, by simp [moveLab, h7]⟩
            · exact .inr ⟨h6, by simp [moveLab, h7, strip_short], h8⟩
          · rw [List.getElem_set]
            split
            · rename_i he
              subst he
              have := ih (hr j hj) hz hn
              simpa using this
            · rename_i he
              exact rep_xfer (hr i' (by simpa using hi')) (by simpa [lowerBy] using (other (r := r) (p := p) (q := q) (s := .e j) (s' := .e i') (by simpa using he)))
      | _ => simp [carve] at hh
    | d =>
      cases t with
      | ptr t =>
        simp only [carve] at hh
        simp only [rep] at h ⊢
        obtain ⟨g, off, cur, e, fz, rfl, hg, hsz, ho, hr⟩ := h
        simp only [nav, hg] at hn
        have h4 := ih hr hh hn
        refine ⟨g, off, cur, e, fz, rfl, hg, hsz, ?_, by simpa using h4⟩
        rcases ho with ⟨h6, h7⟩ | ⟨h6, h7, h8⟩
        · exact .inl ⟨h6, by simp [moveLab, h7]⟩
        · exact .inr ⟨h6, by simp [moveLab, h7, strip_short], h8⟩
      | _ => simp [carve] at hh

/-- A part of a root goes along by itself, under the number g; its cell's value is named. -/
theorem carveAW (k g : Nat) (q : Path) {code : Code} {t e : Ty} {m : Nat} {x : den t} {xs : List (den e)} {x2 : Value → den t} (hk : look l k = some (.val t m x)) (hs : sub q t x = some ⟨.may (.slc e), .inr xs⟩) (hc : ∀ u, carve u q t x = some (x2 u)) (hg : Nat.blt g 999999 = true) (hkg : Nat.beq k g = false)
    (h : ∀ u, AW P c code Q ((g, .gh u (.slc e) (m - dep q) xs) :: purge g true ((k, .val t m (x2 u)) :: purge k false l))) : AW P c code Q l := fun a w lab hR => by
  have hg : g < 999999 := by simpa [Nat.blt_eq] using hg
  have hkg : k ≠ g := fun e => by subst e; rw [show Nat.beq k k = true from Nat.beq_refl k] at hkg; cases hkg
  obtain ⟨v, hv, hrep⟩ := hR.vals _ _ (look_mem hk)
  obtain ⟨us', A', hn, hr'⟩ := rep_nav (A := none) hrep.rep hs
  have hlen := rep_length hr'
  match us', hlen with
  | [u], _ =>
  -- first the labels of g are given up
  have hk9 : k < 999999 := Nat.lt_of_lt_of_le (hR.lt hv) c.hn
  let lab0 : Lab := fun b => match lab b with | some (r, p) => if r = g then some (1000001, p) else some (r, p) | none => none
  have hshr0 : ∀ b, b < w.heap.size → lab b = none → lab0 b = none := fun b _ hl => by simp [lab0, hl]
  have hkeep0 : ∀ j, j ≠ g → Keeps lab lab0 w w j := fun j hj => ⟨fun b hb hl => ⟨hshr0 b hb hl, rfl⟩, fun b p hb hl => ⟨by
    simp only [List.nil_append] at hl
    simp [lab0, hl, hj, lessThan], rfl⟩⟩
  have hR0 : Rel c (purge g true l) a w lab0 := by
    have := hR.change (a' := a) (w' := w) (lab' := lab0) [g] (by simp [hidden]; omega) hR.defers rfl (fun _ _ _ => rfl) (fun _ _ => rfl) (hR.fr.ghost hshr0) (fun j hj _ => hkeep0 j (by simpa using hj))
    simpa [purgeAll] using this
  have hk0 : (k, AX.val t m x) ∈ purge g true l := mem_purge_iff.2 ⟨look_mem hk, hkg, rfl⟩
  have hrep0 : repV lab0 w t m x v k [] := repV_keep hrep (hkeep0 k hkg)
  let lab1 := moveLab lab0 k q g
  have hshr1 : ∀ b, b < w.heap.size → lab0 b = none → lab1 b = none := fun b _ hl => by simp [lab1, moveLab, hl]
  have hc1 := rep_carve (i := g) hrep0.rep (hc u) hn
  have hR1 : Rel c ((k, .val t m (x2 u)) :: purge k false (purge g true l)) a w lab1 := by
    refine hR0.put hk0 hv ⟨hrep0.shape, by simpa [lab1] using hc1⟩ hR0.defers rfl (fun _ => rfl) (hR0.fr.ghost hshr1) (fun j hj _ => moveLab_keep hj)
  obtain ⟨us2, A2, hn2, hr2⟩ := rep_nav (A := none) hrep0.rep hs
  rw [hn] at hn2
  simp only [Option.some.injEq, Prod.mk.injEq] at hn2
  obtain ⟨_, rfl, _⟩ := hn2
  have hgh : repV lab1 w (.slc e) (m - dep q) xs u g [] := by
    have h1 := rep_xfer (rep_may.2 hr2) (moveLab_xfer (r := k) (p := [] ++ q) (i := g))
    simp only [cutTo, List.nil_append] at h1
    exact ⟨fun h => by simp [Ty.agg] at h, h1⟩
  have hsub : ∀ kv ∈ purge g true ((k, AX.val t m (x2 u)) :: purge k false l), kv ∈ (k, AX.val t m (x2 u)) :: purge k false (purge g true l) := fun kv hkv => by
    obtain ⟨h1, h2, h3⟩ := mem_purge hkv
    rcases List.mem_cons.1 h1 with rfl | h1
    · exact List.mem_cons_self ..
    · obtain ⟨h4, h5, h6⟩ := mem_purge h1
      exact List.mem_cons_of_mem _ (mem_purge_iff.2 ⟨mem_purge_iff.2 ⟨h4, h2, h3⟩, h5, h6⟩)
  have hR2 := hR1.weaken hsub
  exact h u a w lab1 (hR2.add (fun v hv => (mem_purge hv).2.1 rfl) ⟨hg, hgh⟩ (fun j v hj => .inl (mem_purge hj).2.2))

/-- The known cell of a part that is gone. -/
theorem r_loadMay {T : TypeId} {x : Operand} {ov : OV} {g : Tgt} {t : Ty} {u : Value} (ho : o.op = .load T x) (hv : view l x = some ov) (hg : target ov = some g)
    (hs : sub g.p g.t g.x = some ⟨.may t, .inl u⟩) (hT : TyOK P T (.may t)) : SR P c l o ⟨ov.rd, some (.val .raw 0 u), []⟩ := fun l' ha => by
  have hseen := seen_of_view (view_agree hv ha)
  refine snd_value fun a w lab hR hd => ?_
  obtain ⟨A, t1, us1, v, hh⟩ := target_hit hR hseen hg
  obtain ⟨rfl, hr, hm⟩ := hit_sub hh hs
  have hu : us1 = [u] ∧ u.oneCell' = true := by
    rcases hr with ⟨v, h1, h2, h3⟩ | ⟨y, v, h1, _⟩
    · cases h1; exact ⟨h2, h3⟩
    · cases h1
  obtain ⟨rfl, hu1⟩ := hu
  have hrun := run_loadAt_mem hT hm
  refine ⟨u, w, lab, ?_, fin_free hR hd fun r p => repV_lone rfl ⟨rfl, hu1⟩⟩
  simp only [execOp, ho, hh.ptr, Sem.run_bind, hrun]
  rfl

theorem purge_idem {r : Nat} : ∀ {l : Env}, purge r true (purge r true l) = purge r true l
  | [] => rfl
  | (k, v) :: l => by
    simp only [purge]
    cases hk : Nat.beq k r with
    | true => simpa using purge_idem
    | false =>
      simp only []
      cases h1 : isRefTo true r v with
      | true => simpa using purge_idem
      | false => simp only [purge, hk, h1, purge_idem]

/-- append to a part that goes along by itself. -/
theorem r_appendGh {T : TypeId} {ks kx : Nat} {u : Value} (g : Nat) {e : Ty} {ms mx mr : Nat} {xs ys zs : List (den e)} (ho : o.op = .call { callee := .builtin .append, args := #[.tmp ks, .tmp kx], argTypes := #[T, T] })
    (hs : look l ks = some (.val .raw 0 u)) (hg : look l g = some (.gh u (.slc e) ms xs)) (hx : look l kx = some (.val (.slc e) mx ys)) (hne : (Nat.beq ks g || Nat.beq kx g || Nat.beq kx ks || Nat.beq ks kx) = false) (hf1 : free (.slc e) ms = false) (hf2 : free (.slc e) mx = false)
    (hT : TyOK P T (.slc e)) (hms : Nat.blt 0 ms = true) (h1 : okM e (ms - 1) mr = true) (h2 : okM e (mx - 1) mr = true)
    (hlen : xs.length + ys.length ≤ 17179869184) (hz : xs ++ ys = zs) : SR P c l o ⟨[ks, g, kx], some (.val (.slc e) (mr + 1) zs), [(g, none), (ks, none), (kx, none)]⟩ := fun l' hag => by
  simp only [Bool.or_eq_false_iff] at hne
  obtain ⟨⟨⟨n1, n2⟩, n3⟩, n4⟩ := hne
  have n1' := Nat.ne_of_beq_eq_false n1
  have n2' := Nat.ne_of_beq_eq_false n2
  have n3' := Nat.ne_of_beq_eq_false n3
  have hs' : look l' ks = some (.val .raw 0 u) := by rw [hag ks (by simp)]; exact hs
  have hg' : look l' g = some (.gh u (.slc e) ms xs) := by rw [hag g (by simp)]; exact hg
  have hx' : look l' kx = some (.val (.slc e) mx ys) := by rw [hag kx (by simp)]; exact hx
  intro a w lab hR hd Q
  obtain ⟨hg9, hgrep⟩ := hR.vals _ _ (look_mem hg')
  obtain ⟨v0, hv0, hraw⟩ := hR.vals _ _ (look_mem hs')
  have hu : v0 = u := by
    have := hraw.rep
    simp only [rep, cellsOf, Ty.agg, List.cons.injEq, and_true] at this
    exact this.1
  subst hu
  have hk9 : ks < 999999 := Nat.lt_of_lt_of_le (hR.lt hv0) c.hn
  let lab1 : Lab := fun b => match lab b with | some (r, p) => if r = g then some (ks, p) else if r = ks then some (1000001, p) else some (r, p) | none => none
  have hshr : ∀ b, b < w.heap.size → lab b = none → lab1 b = none := fun b _ hl => by simp [lab1, hl]
  have hkeep : ∀ j, j ≠ g → j ≠ ks → Keeps lab lab1 w w j := fun j hj hj2 => ⟨fun b hb hl => ⟨hshr b hb hl, rfl⟩, fun b p hb hl => ⟨by
    simp only [List.nil_append] at hl
    simp [lab1, hl, hj, hj2, lessThan], rfl⟩⟩
  have hR0 : Rel c (purge ks true (purge g true l')) a w lab1 := by
    have := hR.change (a' := a) (w' := w) (lab' := lab1) [g, ks] (by simp [hidden]; omega) hR.defers rfl (fun _ _ _ => rfl) (fun _ _ => rfl) (hR.fr.ghost hshr) (fun j hj _ => by simp only [List.mem_cons, List.not_mem_nil, or_false, not_or] at hj; exact hkeep j hj.1 hj.2)
    simpa [purgeAll] using this
  have hnew : repV lab1 w (.slc e) ms xs v0 ks [] := by
    have := repV_xfer (k := none) hgrep (lab' := lab1) (w' := w) (r' := ks) (p' := []) ⟨fun b hb hl => ⟨hshr b hb hl, rfl⟩, fun b q hb hl => ⟨by
      simp only [List.nil_append] at hl
      simp [lab1, hl, lessThan], rfl⟩⟩
    simpa [cutTo] using this
  let l2 : Env := (ks, .val (.slc e) ms xs) :: purge ks true (purge g true l')
  have hR2 : Rel c l2 a w lab1 := hR0.add (fun v hv => (mem_purge hv).2.1 rfl) ⟨v0, hv0, hnew⟩ (fun j v hj => .inl (mem_purge hj).2.2)
  have hm1 : (ks, AX.val (.slc e) ms xs) ∈ l2 := List.mem_cons_self ..
  have hm2 : (kx, AX.val (.slc e) mx ys) ∈ l2 := List.mem_cons_of_mem _ (mem_purge_iff.2 ⟨mem_purge_iff.2 ⟨look_mem hx', n2', rfl⟩, n3', rfl⟩)
  have hl1 : look l2 ks = some (.val (.slc e) ms xs) := look_of_mem (fun k v v' h1 h2 => hR2.uniq k v v' h1 h2) hm1
  have hl2 : look l2 kx = some (.val (.slc e) mx ys) := look_of_mem (fun k v v' h1 h2 => hR2.uniq k v v' h1 h2) hm2
  let ovs : List OV := [.val (some ks) (.slc e) ms xs, .val (some kx) (.slc e) mx ys]
  have hva : viewAll l2 [.tmp ks, .tmp kx] = some ovs := by simp [viewAll, view, hl1, hl2, ovs]
  have hta : takes (own1 ovs ++ []) ovs = some ([⟨.slc e, ms, xs⟩, ⟨.slc e, mx, ys⟩], [(ks, none), (kx, none)]) := by
    have hd1 : disjAll (keys [(ks, (none : Option AX))]) [OV.val (some kx) (.slc e) mx ys] = true := by simp [disjAll, disj, keys, OV.rd, memb, n3, n4]
    have hd2 : disjAll (keys [(kx, (none : Option AX))]) [] = true := rfl
    simp [ovs, takes, take, hf1, hf2, hd1, hd2]
  have hsr := r_append (c := c) [] ho hva hta hT hms h1 h2 hlen hz l2 (fun _ _ => rfl) a w lab1 hR2 hd Q
  refine Oper.wp_mono ?_ hsr
  rintro a' w' ⟨lab', hR'⟩
  refine ⟨lab', ?_⟩
  have he : ∀ d ov, after l2 d ⟨rds ovs, ov, [(ks, none), (kx, none)]⟩ = after l' d ⟨[ks, g, kx], ov, [(g, none), (ks, none), (kx, none)]⟩ := fun d ov => by
    have hp : purge ks true l2 = purge ks true (purge g true l') := by
      show purge ks true ((ks, _) :: _) = _
      simp only [purge, show Nat.beq ks ks = true from Nat.beq_refl ks, purge_idem]
    unfold after
    simp only [applyUpd, hp]
  rw [← he]
  exact hR'

theorem sub_alg {i j k e v : Ty} {x : den i × List (den j × (Value ⊕ List (den e)) × den k) × den v} {n : Nat} {y : den j × List (den e) × den k} (h : x.2.1[n]? = some (y.1, .inr y.2.1, y.2.2)) :
    sub [.d, .r, .l, .e n, .r, .l] (.ptr (.prod i (.prod (.slc (.prod j (.prod (.may (.slc e)) k))) v))) x = some ⟨.may (.slc e), .inr y.2.1⟩ := by
  simp only [sub, h]
theorem carve_alg {i j k e v : Ty} {x : den i × List (den j × (Value ⊕ List (den e)) × den k) × den v} {n : Nat} {y : den j × List (den e) × den k} (h : x.2.1[n]? = some (y.1, .inr y.2.1, y.2.2)) (u : Value) :
    carve u [.d, .r, .l, .e n, .r, .l] (.ptr (.prod i (.prod (.slc (.prod j (.prod (.may (.slc e)) k))) v))) x = some (x.1, (x.2.1.set n (y.1, (.inl u, y.2.2)), x.2.2)) := by
  simp only [carve, h]
theorem idx_set {A : Type} {xs : List A} {i : Int} {y z : A} (h : idx xs i = some y) : idx (xs.set i.toNat z) i = some z := by
  have h1 := idx_nn h
  have h2 := idx_lt h
  unfold idx
  rw [if_pos h1]
  simp [h2]

theorem unmay_may {A B C : Type} : ∀ {xs : List (A × B × C)}, unmayL (mayL xs) = some xs
  | [] => rfl
  | (a, b, c) :: xs => by
    have := unmay_may (xs := xs)
    unfold mayL at this
    simp [mayL, unmayL, unmay1, this]
theorem unmay_set {A B C : Type} {xs : List (A × B × C)} {n : Nat} {z : A × (Value ⊕ B) × C} {a : A} {b : B} {c : C} : unmayL (((mayL xs).set n z).set n (a, .inr b, c)) = some (xs.set n (a, b, c)) := by
  have : ((mayL xs).set n z).set n (a, .inr b, c) = mayL (xs.set n (a, b, c)) := by
    rw [List.set_set]; simp [mayL, List.map_set]
  rw [this, unmay_may]

theorem idx_may {A B C : Type} {xs : List (A × B × C)} {i : Int} {y : A × B × C} (h : idx xs i = some y) : idx (mayL xs) i = some (y.1, .inr y.2.1, y.2.2) := by
  unfold idx at h ⊢
  split at h
  · rename_i hi; rw [if_pos hi]; simp [mayL, h]
  · simp at h

end

theorem tyOK_may {P : Program} {T : TypeId} {E : TypeId} {t : Ty} (h : (P.info? T).map (fun i => (i.size, i.zero)) = some (1, some (.slice none 0 0))) (hu : P.underlying T = some (.slice E)) : TyOK P T (.may t) := by
  obtain ⟨i, hi, h1, h2⟩ := info_of h
  exact ⟨⟨i, hi, h1, fun _ => ⟨_, h2, rfl⟩⟩, _, hu, E, rfl⟩

theorem tyOK_fn {P : Program} {T : TypeId} (h : (P.info? T).map (fun i => (i.size, i.zero)) = some (1, some .nilFunc)) (hu : (match P.underlying T with | some (.struct _) => false | some (.array _ _) => false | some _ => true | none => false) = true) : TyOK P T .raw := by
  obtain ⟨i, hi, h2, h3⟩ := info_of h
  cases hd : P.underlying T with
  | none => simp [hd] at hu
  | some d => exact ⟨⟨i, hi, h2, fun _ => ⟨_, h3, rfl⟩⟩, d, hd, fun fs he => by subst he; simp [hd] at hu, fun n e he => by subst he; simp [hd] at hu⟩

end Go.Abs
