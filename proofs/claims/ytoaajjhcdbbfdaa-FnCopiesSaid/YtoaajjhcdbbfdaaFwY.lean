/- The framework: walks of code that keep plain values. -/
import Derived.Test.YtoaajjhcdbbfdaaFwX
set_option linter.unusedSimpArgs false
set_option linter.unnecessarySimpa false
set_option linter.unusedVariables false
namespace Go.Abs

section
variable {P : Program} {c : Ctx} {l : Env} {Q : Exit → Env → Prop} {o : Oper}

theorem AW.joinX {σ ρ : Type} {x : Code} (z : Ex σ ρ) (l0 : Env) (_ : Sub l0 l) (env : σ → Env) (hx : AW P c x (fallQ z (fun s => env s ++ l0) Q) l) (hy : ∀ s, z = .fall s → ∀ l', Sub (env s ++ l0) l' → Q .normal l') : AW P c x Q l := by
  refine hx.mono fun e l hq => ?_
  cases e with
  | normal => obtain ⟨s, hz, hs⟩ := hq; exact hy s hz _ hs
  | _ => exact hq

theorem AW.joinJ {x : Code} (l0 : Env) (_ : Sub l0 l) (m : Env) (hx : AW P c x (joinQ (m ++ l0) Q) l) (hy : ∀ l', Sub (m ++ l0) l' → Q .normal l') : AW P c x Q l := by
  refine hx.mono fun e l hq => ?_
  cases e with
  | normal => exact hy _ hq
  | _ => exact hq

theorem Rel.lower {a : Act} {w : World} {lab : Lab} {k : Nat} {t : Ty} {m n : Nat} {x : den t} (h : Rel c l a w lab) (hk : (k, AX.val t m x) ∈ l) :
    ∃ lab', Rel c ((k, .val t (min m n) x) :: purge k false l) a w lab' := by
  obtain ⟨u, hu, hrep⟩ := h.vals _ _ hk
  have hshr : ∀ b, b < w.heap.size → lab b = none → freezeLab lab k n b = none := fun b _ hl => by simp [freezeLab, hl]
  refine ⟨freezeLab lab k n, h.put hk hu ?_ h.defers rfl (fun _ => rfl) (h.fr.ghost hshr) (fun j hj _ => freezeLab_keep hj)⟩
  simpa [cutTo] using repV_xfer hrep (freezeLab_self (n := n))

/-- A root's ownership given up ahead of a part of the code. -/
theorem AW.lower (k n : Nat) {code : Code} {t : Ty} {m : Nat} {x : den t} (hk : look l k = some (.val t m x)) (h : AW P c code Q ((k, .val t (min m n) x) :: purge k false l)) : AW P c code Q l := fun a w lab hR => by
  obtain ⟨lab', hR'⟩ := hR.lower (n := n) (look_mem hk)
  exact h a w lab' hR'

/-- A root's ownership given up within a region. -/
theorem RT.lower {ops : Array Oper} {os : List Oper} {K : Env → Prop} (k n : Nat) {t : Ty} {m : Nat} {x : den t} (hk : look l k = some (.val t m x)) (h : RT P c ops ((k, .val t (min m n) x) :: purge k false l) os K) : RT P c ops l os K :=
  RT.cast (fun _ _ _ hR => hR.lower (n := n) (look_mem hk)) h

/-- An operation's result, its ownership given up. -/
theorem SR.lower (n : Nat) {rd : List Nat} {t : Ty} {m : Nat} {x : den t} {up : List (Nat × Option AX)} (h : SR P c l o ⟨rd, some (.val t m x), up⟩) : SR P c l o ⟨rd, some (.val t (min m n) x), up⟩ := fun l' ha => by
  intro a w lab hR hd Q
  refine Oper.wp_mono ?_ (h l' ha a w lab hR hd Q)
  rintro a' w' ⟨lab', hR'⟩
  cases hdst : o.dst with
  | none => simp only [after, hdst] at hR' ⊢; exact ⟨lab', hR'⟩
  | some d =>
    simp only [after, hdst] at hR' ⊢
    obtain ⟨lab2, hR2⟩ := hR'.lower (n := n) (List.mem_cons_self ..)
    refine ⟨lab2, hR2.weaken fun kv hkv => ?_⟩
    rcases List.mem_cons.1 hkv with rfl | hkv
    · exact List.mem_cons_self ..
    · refine List.mem_cons_of_mem _ ?_
      simp only [purge, show Nat.beq d d = true from Nat.beq_refl d]
      exact mem_purge_iff.2 ⟨hkv, (mem_purge hkv).2.1, isRefTo_le (mem_purge hkv).2.2⟩

theorem rep_nilS {lab : Lab} {w : World} {e : Ty} {m : Nat} {r : Nat} {p : Path} : repV lab w (.slc e) m [] (.slice none 0 0) r p :=
  repV_lone rfl ⟨none, 0, rfl, Nat.le_refl _, Nat.zero_le _, .inl ⟨rfl, rfl, rfl⟩⟩

/-- The slice nil. -/
theorem r_nilS {T : TypeId} {m : Nat} {e : Ty} (ho : o.op = .move (.const (.slice none 0 0)) ∨ o.op = .assign (.const (.slice none 0 0))) (_ : TyOK P T (.slc e)) : SR P c l o ⟨[], some (.val (.slc e) m ([] : List (den e))), []⟩ := fun l' _ => by
  refine snd_value fun a w lab hR hd => ⟨.slice none 0 0, w, lab, by rcases ho with ho | ho <;> simp [execOp, ho, Act.eval], ?_⟩
  cases hdst : o.dst with
  | none => simpa [after, applyUpd, Act.put] using hR
  | some d => exact fin_val hR (hd.lt d hdst) (hd.fix d hdst) hR.fr (fun k _ _ => Keeps.refl lab w k) rep_nilS

theorem seen_tup {a : Act} {w : World} {lab : Lab} {k : Nat} {vs : List (Option V)} {j : Nat} {v : V} (hR : Rel c l a w lab) (hm : (k, AX.tup vs) ∈ l) (hj : vs[j]? = some (some v)) :
    ∃ us : List Value, a.tmps[k]? = some (.tuple us.toArray) ∧ us.length = vs.length ∧ ∃ u, us[j]? = some u ∧ repV lab w v.t v.m v.x u k [.e j] := by
  obtain ⟨us, h1, h2, h3⟩ := hR.vals _ _ hm
  exact ⟨us, h1, h2, h3 j v hj⟩

/-- extract: a component that is free. -/
theorem r_extract_copy {k j : Nat} {vs : List (Option V)} {v : V} (ho : o.op = .extract (.tmp k) j) (hv : look l k = some (.tup vs)) (hj : vs[j]? = some (some v)) (hf : free v.t v.m = true) : SR P c l o ⟨[k], some (.val v.t 0 v.x), []⟩ := fun l' ha => by
  have hv' : look l' k = some (.tup vs) := by rw [ha k (by simp)]; exact hv
  refine snd_value fun a w lab hR hd => ?_
  obtain ⟨us, h1, h2, u, h3, h4⟩ := seen_tup hR (look_mem hv') hj
  exact ⟨u, w, lab, by simp [execOp, ho, eval_tmp h1, Instr.extract, h3], fin_free hR hd (repV_free hf h4)⟩

theorem isRefTo_root {k : Nat} {v : AX} (h : isRefTo true k v = true) : (∃ p, v = .ref k p) ∨ ∃ p, v = .place k p := by
  cases v with
  | ref r p =>
    simp only [isRefTo] at h
    cases hb : Nat.beq r k with
    | true => exact .inl ⟨p, by rw [Nat.eq_of_beq_eq_true hb]⟩
    | false => simp [hb] at h
  | place r p => exact .inr ⟨p, by simp only [isRefTo] at h; rw [Nat.eq_of_beq_eq_true h]⟩
  | _ => simp [isRefTo] at h

theorem Rel.putTup {a : Act} {w : World} {lab lab' : Lab} {k : Nat} {vs' : List (Option V)} (h : Rel c l a w lab) (hk : k < 999999) (hfr : Fr c.W0 c.lab0 w lab') (hkp : ∀ j, j ≠ k → j < 1000000 → Keeps lab lab' w w j)
    (hn : ∃ us : List Value, a.tmps[k]? = some (.tuple us.toArray) ∧ us.length = vs'.length ∧ ∀ i v, vs'[i]? = some (some v) → ∃ u, us[i]? = some u ∧ repV lab' w v.t v.m v.x u k [.e i]) : Rel c ((k, .tup vs') :: purge k false l) a w lab' := by
  have h0 := h.change (a' := a) (w' := w) (lab' := lab') [k] (by simp [hidden]; omega) h.defers rfl (fun _ _ _ => rfl) (fun _ _ => rfl) hfr (fun j' hj' h2 => hkp j' (by simpa using hj') h2)
  have h0 : Rel c (purge k true l) a w lab' := by simpa [purgeAll] using h0
  refine ⟨h0.defers, h0.size, h0.fix, h0.fr, h0.hid, fun j u u' h1 h2 => ?_, fun j v hm => ?_⟩
  · rcases List.mem_cons.1 h1 with e1 | h1 <;> rcases List.mem_cons.1 h2 with e2 | h2
    · exact (Prod.mk.inj e1).2.trans (Prod.mk.inj e2).2.symm
    · exact absurd (Prod.mk.inj e1).1 (mem_purge h2).2.1
    · exact absurd (Prod.mk.inj e2).1 (mem_purge h1).2.1
    · exact h.uniq j u u' (purge_sub _ h1) (purge_sub _ h2)
  have back : ∀ r, r ≠ k → ∀ t m x, (r, AX.val t m x) ∈ (k, AX.tup vs') :: purge k false l → (r, AX.val t m x) ∈ purge k true l := fun r hr t m x hm => by
    rcases List.mem_cons.1 hm with e | hm
    · exact absurd (Prod.mk.inj e).1 hr
    · exact mem_purge_iff.2 ⟨(mem_purge hm).1, hr, rfl⟩
  have none : ∀ t m x, ¬ (k, AX.val t m x) ∈ (k, AX.tup vs') :: purge k false l := fun t m x hm => by
    rcases List.mem_cons.1 hm with e | hm
    · exact absurd (Prod.mk.inj e).2 (by simp)
    · exact (mem_purge hm).2.1 rfl
  rcases List.mem_cons.1 hm with e | hm
  · obtain ⟨rfl, rfl⟩ := Prod.mk.inj e
    exact hn
  cases hr : isRefTo true k v with
  | true =>
    rcases isRefTo_root hr with ⟨p, rfl⟩ | ⟨p, rfl⟩
    · exact fun t m x hx => absurd hx (none t m x)
    · exact fun t m x hx => absurd hx (none t m x)
  | false =>
    have hv := h0.vals j v (mem_purge_iff.2 ⟨(mem_purge hm).1, (mem_purge hm).2.1, hr⟩)
    cases v with
    | val t m x => exact hv
    | tup vs => exact hv
    | gh u t m x => exact hv
    | ref r p =>
      have hrk : r ≠ k := fun e => by subst e; simp [isRefTo] at hr
      exact fun t m x hx => hv t m x (back r hrk t m x hx)
    | place r p =>
      have hrk : r ≠ k := fun e => by subst e; simp [isRefTo] at hr
      exact fun t m x hx => hv t m x (back r hrk t m x hx)

/-- extract: a component that is owned goes over. -/
theorem r_extract {k j : Nat} {vs : List (Option V)} {v : V} (ho : o.op = .extract (.tmp k) j) (hv : look l k = some (.tup vs)) (hj : vs[j]? = some (some v)) : SR P c l o ⟨[k], some (.val v.t v.m v.x), [(k, some (.tup (vs.set j none)))]⟩ := fun l' ha => by
  have hv' : look l' k = some (.tup vs) := by rw [ha k (by simp)]; exact hv
  refine snd_value fun a w lab hR hd => ?_
  obtain ⟨us, h1, h2, u, h3, h4⟩ := seen_tup hR (look_mem hv') hj
  have hk : k < 999999 := Nat.lt_of_lt_of_le (hR.lt h1) c.hn
  have hshr : ∀ b, b < w.heap.size → lab b = none → moveLab lab k [.e j] vroot b = none := fun b _ hl => by simp [moveLab, hl]
  have h1R : Rel c ((k, .tup (vs.set j none)) :: purge k false l') a w (moveLab lab k [.e j] vroot) := by
    refine hR.putTup hk (hR.fr.ghost hshr) (fun i hi _ => moveLab_keep hi) ⟨us, h1, by simpa using h2, fun i v' hi => ?_⟩
    have hne : i ≠ j := fun e => by
      subst e
      rw [List.getElem?_set] at hi
      split at hi
      · split at hi <;> simp at hi
      · rename_i hne; exact hne rfl
    rw [List.getElem?_set_ne (Ne.symm hne)] at hi
    obtain ⟨us', h1', _, h3'⟩ := hR.vals _ _ (look_mem hv')
    rw [h1] at h1'
    have hus : us = us' := by simpa using h1'
    subst hus
    obtain ⟨u', h5, h6⟩ := h3' i v' hi
    have hx : Xfer lab (moveLab lab k [.e j] vroot) w w k [.e i] k [.e i] none := ⟨fun b hb hl => ⟨hshr b hb hl, rfl⟩, fun b q hb hl => ⟨by
      simp only [moveLab, hl]
      simp [strip, Ne.symm hne, lessThan], rfl⟩⟩
    refine ⟨u', h5, ?_⟩
    simpa [cutTo] using repV_xfer h6 hx
  have hvv : repV (moveLab lab k [.e j] vroot) w v.t v.m v.x u vroot [] := by
    have := repV_xfer h4 (moveLab_xfer (i := vroot))
    simpa [cutTo] using this
  have hrun : (execOp a.eval o).run P w = .ok (.value u) w := by simp [execOp, ho, eval_tmp h1, Instr.extract, h3]
  cases hdst : o.dst with
  | none => exact ⟨u, w, _, hrun, by simpa [after, Act.put, applyUpd] using h1R⟩
  | some d =>
    refine ⟨u, w, relab (moveLab lab k [.e j] vroot) d (fun r => if r = vroot then some [] else none) none, hrun, ?_⟩
    refine fin_val h1R (hd.lt d hdst) (hd.fix d hdst) (h1R.fr.ghost (relab_shr nb_none)) (fun k hk hk2 => relab_keep nb_none (fun _ _ => rfl) (if_neg (by unfold vroot; omega))) ?_
    simpa [cutTo] using repV_xfer hvv (relab_xfer (d := d) (f := fun r => if r = vroot then some [] else none) nb_none (fun _ _ => rfl) (by simp))

/-- A tuple goes over to another slot. -/
theorem r_moveTup {k : Nat} {vs : List (Option V)} (ho : o.op = .move (.tmp k) ∨ o.op = .assign (.tmp k)) (hv : look l k = some (.tup vs)) : SR P c l o ⟨[k], some (.tup vs), [(k, none)]⟩ := fun l' ha => by
  have hv' : look l' k = some (.tup vs) := by rw [ha k (by simp)]; exact hv
  refine snd_value fun a w lab hR hd => ?_
  obtain ⟨us, h1, h2, h3⟩ := hR.vals _ _ (look_mem hv')
  have hshr : ∀ b, b < w.heap.size → lab b = none → moveLab lab k [] vroot b = none := fun b _ hl => by simp [moveLab, hl]
  have h1R : Rel c (purge k true l') a w (moveLab lab k [] vroot) := by
    have := hR.change (a' := a) (w' := w) (lab' := moveLab lab k [] vroot) [k] (hR.not_hidden (hR.lt h1)) hR.defers rfl (fun _ _ _ => rfl) (fun _ _ => rfl) (hR.fr.ghost hshr) (fun j hj _ => moveLab_keep (fun e => hj (by simp [e])))
    simpa [purgeAll] using this
  have hrun : (execOp a.eval o).run P w = .ok (.value (.tuple us.toArray)) w := by rcases ho with ho | ho <;> simp [execOp, ho, eval_tmp h1]
  cases hdst : o.dst with
  | none => exact ⟨_, w, _, hrun, by simpa [after, Act.put, applyUpd, hdst] using h1R⟩
  | some d =>
    refine ⟨_, w, relab (moveLab lab k [] vroot) d (fun r => if r = vroot then some [] else none) none, hrun, ?_⟩
    refine fin h1R (hd.lt d hdst) (hd.fix d hdst) (h1R.fr.ghost (relab_shr nb_none)) (fun k hk hk2 => relab_keep nb_none (fun _ _ => rfl) (if_neg (by unfold vroot; omega))) ⟨us, put_tmps_eq (by rw [h1R.size]; exact hd.lt d hdst), h2, fun i v hi => ?_⟩
    obtain ⟨u, h4, h5⟩ := h3 i v hi
    refine ⟨u, h4, ?_⟩
    have h6 := repV_xfer h5 ((moveLab_xfer (lab := lab) (w := w) (r := k) (p := []) (i := vroot)).step (.e i))
    simp only [List.nil_append, lowerBy, Option.map_none, cutTo] at h6
    simpa [cutTo, lowerBy] using repV_xfer h6 ((relab_xfer (lab := moveLab lab k [] vroot) (w := w) (w' := w) (d := d) (f := fun r => if r = vroot then some [] else none) (p := []) nb_none (fun _ _ => rfl) (by simp)).step (.e i))

theorem RT.sub {ops : Array Oper} {os : List Oper} {K : Env → Prop} (l1 : Env) (hs : Sub l1 l) (h : RT P c ops l1 os K) : RT P c ops l os K := RT.weaken hs.sub h

theorem DT.eq {ops : Array Oper} {k : Nat} {done : List (Nat × Item P c ops)} {os : List Oper} {K : Env → Prop} (l1 : Env) (hl : l = l1) (h : DT P c ops k done l1 os K) : DT P c ops k done l os K := by subst hl; exact h

theorem r_mkS {T : TypeId} {x y : Operand} {k1 k2 : Option Nat} {ik1 ik2 : IntKind} {m1 m2 : Nat} {n : Int} {e : Ty} {zs : List (den e)} (ho : o.op = .makeSlice T x y) (hx : view l x = some (.val k1 (.int ik1) m1 n)) (hy : view l y = some (.val k2 (.int ik2) m2 n))
    (hT : TyOK P T (.slc e)) (hz : zeroOk e = true) (h : mkS (zeroD e) n = some zs) : SR P c l o ⟨(OV.val k1 (.int ik1) m1 n).rd ++ (OV.val k2 (.int ik2) m2 n).rd, some (.val (.slc e) (e.depth + 1) zs), []⟩ := by
  rw [← mkS_eq h]
  exact r_makeSlice ho hx hy hT hz (mkS_nn h) (mkS_le h)

theorem Sub.get : ∀ {l' l : Env}, Sub l' l → ∀ {k : Nat} {v : AX}, (k, v) ∈ l' → look l k = some v
  | (j, w) :: l', l, h, k, v, hm => by
    rcases List.mem_cons.1 hm with e | hm
    · obtain ⟨rfl, rfl⟩ := Prod.mk.inj e; exact h.1
    · exact Sub.get h.2 hm
theorem Sub.via {l' l : Env} (h : Sub l' l) : ∀ {m : Env}, Sub m l' → Sub m l
  | [], _ => trivial
  | (_, _) :: _, hm => ⟨h.get (look_mem hm.1), Sub.via h hm.2⟩

theorem take_frz {mv : List Nat} {k r : Nat} {p : Path} {t t' : Ty} {m : Nat} {x : den t} {x' : den t'} (hs : sub p t x = some ⟨t', x'⟩) (hk : memb k mv = false) : take mv (.ref k r p t m x) = some (⟨t', 0, x'⟩, [(r, some (.val t (min m (dep p)) x))]) := by
  simp [take, hs, hk]

theorem lend_ref {k r : Nat} {p : Path} {t t' : Ty} {m : Nat} {x : den t} {x' : den t'} (hs : sub p t x = some ⟨t', x'⟩) : lend (.ref k r p t m x) = some ⟨t', 0, x'⟩ := by simp [lend, hs]
theorem lends_cons {ov : OV} {ovs : List OV} {v : V} {vs : List V} (h : lend ov = some v) (hs : lends ovs = some vs) : lends (ov :: ovs) = some (v :: vs) := by simp [lends, h, hs]
theorem lends_nil : lends [] = some [] := rfl

end
end Go.Abs
