/- The framework: walks of code that keep plain values. -/
import Derived.Test.YtoaajjhcdbbfdaaFwQ
set_option linter.unusedSimpArgs false
set_option linter.unnecessarySimpa false
set_option linter.unusedVariables false
namespace Go.Abs

theorem rep_move_shared {lab lab' : Lab} {w w' : World} (hs : ∀ b, b < w.heap.size → lab b = none → lab' b = none ∧ w'.heap[b]? = w.heap[b]?) : ∀ {t : Ty} {x : den t} {us : List Value} {r r' : Nat} {p p' : Path}, rep lab w t 0 x us r p → rep lab' w' t 0 x us r' p' := by
  intro t
  induction t with
  | int k => intro x us r r' p p' h; exact h
  | bool => intro x us r r' p p' h; exact h
  | str => intro x us r r' p p' h; exact h
  | raw => intro x us r r' p p' h; exact h
  | unit => intro x us r r' p p' h; exact h
  | hole => intro x us r r' p p' h; exact h
  | prod a b iha ihb =>
    intro x us r r' p p' h
    simp only [rep] at h ⊢
    obtain ⟨u1, u2, rfl, h1, h2, h3⟩ := h
    exact ⟨u1, u2, rfl, h1, iha h2, ihb h3⟩
  | slc t ih =>
    intro x us r r' p p' h
    simp only [rep] at h ⊢
    obtain ⟨base, cap, rfl, hc, hm, h⟩ := h
    refine ⟨base, cap, rfl, hc, hm, ?_⟩
    rcases h with h | ⟨g, off, cur, e, fz, rfl, hg, hsz, ho, hr⟩
    · exact .inl h
    · rcases ho with ⟨h0, hl⟩ | ⟨h0, _⟩
      · obtain ⟨h1, h2⟩ := hs g (lt_of_heap hg) hl
        exact .inr ⟨g, off, cur, e, fz, rfl, by rw [h2, hg], hsz, .inl ⟨h0, h1⟩, fun i hi => ih (hr i hi)⟩
      · omega
  | ptr t ih =>
    intro x us r r' p p' h
    simp only [rep] at h ⊢
    obtain ⟨g, off, cur, e, fz, rfl, hg, hsz, ho, hr⟩ := h
    rcases ho with ⟨h0, hl⟩ | ⟨h0, _⟩
    · obtain ⟨h1, h2⟩ := hs g (lt_of_heap hg) hl
      exact ⟨g, off, cur, e, fz, rfl, by rw [h2, hg], hsz, .inl ⟨h0, h1⟩, ih hr⟩
    · omega
  | opt t ih =>
    intro x us r r' p p' h
    simp only [rep] at h ⊢
    exact h.imp id fun ⟨y, b, len, cap, h1, h2, h3⟩ => ⟨y, b, len, cap, h1, h2, ih h3⟩
  | may t ih =>
    intro x us r r' p p' h
    simp only [rep] at h ⊢
    exact h.imp id fun ⟨y, v, h1, h2, h3⟩ => ⟨y, v, h1, h2, ih h3⟩
  | shr t ih =>
    intro x us r r' p p' h
    simp only [rep] at h ⊢
    obtain ⟨base, cap, rfl, hc, hm, h⟩ := h
    refine ⟨base, cap, rfl, hc, hm, ?_⟩
    exact h.imp id fun ⟨hm1, g, off, cur, e, fz, h1, hg, hsz, ho, hr⟩ => ⟨hm1, g, off, cur, e, fz, h1, by rw [(hs g (lt_of_heap hg) ho).2, hg], hsz, (hs g (lt_of_heap hg) ho).1, fun i hi => ih (hr i hi)⟩

/-- The results' variables give these, one after the other; what is left of the state. -/
inductive ResTakes (P : Program) : Env → List ResultVar → List V → Env → Prop where
  | nil {l : Env} : ResTakes P l [] [] l
  | tmp {l : Env} {t : Tmp} {rvs : List ResultVar} {ov : OV} {v : V} {up : List (Nat × Option AX)} {vs : List V} {l' : Env} (hv : view l (.tmp t) = some ov) (ht : take [t] ov = some (v, up)) (h : ResTakes P (applyUpd l up) rvs vs l') : ResTakes P l (.tmp t :: rvs) (v :: vs) l'
  | cell {l : Env} {a : Tmp} {T : TypeId} {rvs : List ResultVar} {t : Ty} {m : Nat} {x : den t} {vs : List V} {l' : Env} (hv : look l a = some (.val (.ptr t) (m + 1) x)) (hT : TyOK P T t) (h : ResTakes P (purge a true l) rvs vs l') :
      ResTakes P l (.cell a T :: rvs) (⟨t, m, x⟩ :: vs) l'

def resOne (tmps : Array Value) : ResultVar → Sem Value
  | .tmp t => pure (tmps.getD t undef)
  | .cell a t => do loadVar t (← asAddr (tmps.getD a undef))

theorem resTakes_sound {P : Program} {c : Ctx} {a : Act} {w : World} : ∀ {l : Env} {rvs : List ResultVar} {ys : List V} {l' : Env}, ResTakes P l rvs ys l' → ∀ (lab : Lab) (k0 : Nat), Rel c l a w lab →
    ∃ lab' vs, Rel c l' a w lab' ∧ (rvs.mapM (resOne a.tmps)).run P w = .ok vs w ∧ vs.length = ys.length ∧ (∀ k (h : k < ys.length) (h' : k < vs.length), repV lab' w ys[k].t ys[k].m ys[k].x vs[k] (resRoot + (k0 + k)) []) ∧
      ∀ k, resRoot ≤ k → k < resRoot + k0 → Keeps lab lab' w w k := by
  intro l rvs ys l' h
  induction h with
  | nil => exact fun lab k0 hR => ⟨lab, [], hR, by simp, rfl, by simp, fun k _ _ => Keeps.refl lab w k⟩
  | @tmp l t rvs ov v up vs l' hv ht h ih =>
    intro lab k0 hR
    obtain ⟨lab1, hR1, hv1, hg1⟩ := take_sound (resRoot + k0) hR (seen_of_view hv) ht
    have hk1 := keys_take hR (seen_of_view hv) ht
    obtain ⟨lab2, us, hR2, hrun, hlen, hrep, hkeep⟩ := ih lab1 (k0 + 1) hR1
    refine ⟨lab2, a.eval (.tmp t) :: us, hR2, ?_, by simp [hlen], fun k hk hk' => ?_, fun k h1 h2 => ?_⟩
    · rw [List.mapM_cons]
      simp only [resOne, Sem.run_bind, Sem.run_pure, Result.andThen_ok, hrun]
      rfl
    · cases k with
      | zero => exact repV_keep hv1 (hkeep _ (by omega) (by omega))
      | succ k =>
        have := hrep k (by simpa using hk) (by simpa using hk')
        rw [show k0 + 1 + k = k0 + (k + 1) by omega] at this
        simpa using this
    · refine Keeps.trans (hg1.keep k ?_) (hkeep k h1 (by omega)) (Nat.le_refl _)
      simp only [List.mem_cons, not_or]
      exact ⟨by omega, fun hk => by have := hk1 k hk; unfold resRoot at h1; omega⟩
  | @cell l ad T rvs t m x vs l' hv hT h ih =>
    intro lab k0 hR
    obtain ⟨u, hu, hrep0⟩ := hR.vals _ _ (look_mem hv)
    have hr := hrep0.rep
    simp only [rep, cellsOf, Ty.agg] at hr
    obtain ⟨g, off, cur, e, fz, he, hg, hsz, _, hel⟩ := hr
    simp only [List.cons.injEq, and_true] at he
    have hshr : ∀ b, b < w.heap.size → lab b = none → moveLab lab ad [.d] (resRoot + k0) b = none := fun b _ hl => by simp [moveLab, hl]
    have hR1 : Rel c (purge ad true l) a w (moveLab lab ad [.d] (resRoot + k0)) := by
      have := hR.change (a' := a) (w' := w) (lab' := moveLab lab ad [.d] (resRoot + k0)) [ad] (hR.not_hidden (hR.lt hu)) hR.defers rfl (fun _ _ _ => rfl) (fun _ _ => rfl) (hR.fr.ghost hshr) (fun j hj _ => moveLab_keep (fun e => hj (by simp [e])))
      simpa [purgeAll] using this
    have hv1 : repV (moveLab lab ad [.d] (resRoot + k0)) w t m x (mkV t (cellsAt cur off t.cells)) (resRoot + k0) [] := by
      have := repV_xfer (repV_mk hel) (moveLab_xfer (r := ad) (p := [] ++ [.d]) (i := resRoot + k0))
      simpa [cutTo] using this
    obtain ⟨lab2, us, hR2, hrun, hlen, hrep, hkeep⟩ := ih _ (k0 + 1) hR1
    refine ⟨lab2, mkV t (cellsAt cur off t.cells) :: us, hR2, ?_, by simp [hlen], fun k hk hk' => ?_, fun k h1 h2 => ?_⟩
    · rw [List.mapM_cons]
      have hget : a.tmps.getD ad undef = .pointer (some ⟨g, off, none⟩) := by rw [← he]; simp [Array.getD_eq_getD_getElem?, hu]
      simp only [resOne, hget, asAddr, Sem.run_bind, Sem.run_pure, Result.andThen_ok, run_loadVar_at hT hg hsz, hrun]
    · cases k with
      | zero => exact repV_keep hv1 (hkeep _ (by omega) (by omega))
      | succ k =>
        have := hrep k (by simpa using hk) (by simpa using hk')
        rw [show k0 + 1 + k = k0 + (k + 1) by omega] at this
        simpa using this
    · refine Keeps.trans (moveLab_keep fun e => ?_) (hkeep k h1 (by omega)) (Nat.le_refl _)
      have := hR.lt hu
      have := c.hn
      unfold resRoot at h1
      omega

theorem run_results {P : Program} {fn : Func} {tmps : Array Value} {w : World} {vs : List Value} (h : (fn.results.toList.mapM (resOne tmps)).run P w = .ok vs w) : (results fn tmps).run P w = .ok (retVal vs) w := by
  unfold results
  have he : ∀ rvs : Array ResultVar, (rvs.mapM fun (rv : ResultVar) => (match rv with | .tmp t => pure (tmps.getD t undef) | .cell a t => do loadVar t (← asAddr (tmps.getD a undef)) : Sem Value)) = List.toArray <$> rvs.toList.mapM (resOne tmps) := by
    intro rvs
    rw [Array.mapM_eq_mapM_toList]
    congr 2
  have hrun : ((List.toArray <$> fn.results.toList.mapM (resOne tmps) : Sem (Array Value)) >>= fun vs => pure (if h : vs.size = 1 then vs[0] else .tuple vs)).run P w = .ok (retVal vs) w := by
    rw [Sem.run_bind, Sem.run_map, h]
    simp only [Result.andThen_ok, Sem.run_pure]
    congr 1
    match vs with
    | [] => rfl
    | [v] => rfl
    | v1 :: v2 :: vs => simp [retVal]
  rw [← he] at hrun
  exact hrun

def initEnv : Nat → List V → Env
  | _, [] => []
  | i, v :: vs => (i, .val v.t v.m v.x) :: initEnv (i + 1) vs

def fixOf : Nat → List V → List Value → List (Nat × Value)
  | i, v :: vs, u :: us => match v.m with
    | 0 => fixOf (i + 1) vs us
    | _ + 1 => (i, u) :: fixOf (i + 1) vs us
  | _, _, _ => []

def ownIdx : Nat → List V → List Nat
  | _, [] => []
  | i, v :: vs => match v.m with
    | 0 => ownIdx (i + 1) vs
    | _ + 1 => i :: ownIdx (i + 1) vs

/-- The arguments behind the call: what was lent is as it was; what is owned is as the state says. -/
def argsBack (l : Env) : Nat → List V → List V → Prop
  | _, [], [] => True
  | i, x :: xs, x' :: xs' => ((x.m = 0 ∧ x' = x) ∨ (x.m ≠ 0 ∧ look l i = some (.val x'.t x'.m x'.x))) ∧ argsBack l (i + 1) xs xs'
  | _, _, _ => False

theorem mem_initEnv : ∀ {vs : List V} {i k : Nat} {v : AX}, (k, v) ∈ initEnv i vs → ∃ j, ∃ h : j < vs.length, k = i + j ∧ v = .val vs[j].t vs[j].m vs[j].x
  | x :: vs, i, k, v, h => by
    simp only [initEnv] at h
    rcases List.mem_cons.1 h with he | h
    · obtain ⟨rfl, rfl⟩ := Prod.mk.inj he
      exact ⟨0, by simp, rfl, rfl⟩
    · obtain ⟨j, hj, rfl, rfl⟩ := mem_initEnv h
      exact ⟨j + 1, by simpa using hj, by omega, rfl⟩

theorem mem_fixOf : ∀ {vs : List V} {us : List Value} {i k : Nat} {u : Value}, (k, u) ∈ fixOf i vs us → k ∈ ownIdx i vs ∧ ∃ j, ∃ h : j < us.length, k = i + j ∧ u = us[j]
  | v :: vs, u0 :: us, i, k, u, h => by
    simp only [fixOf] at h
    simp only [ownIdx]
    split at h
    · rename_i hm
      obtain ⟨h1, j, hj, rfl, rfl⟩ := mem_fixOf h
      exact ⟨h1, j + 1, by simpa using hj, by omega, rfl⟩
    · rename_i n hm
      rcases List.mem_cons.1 h with he | h
      · obtain ⟨rfl, rfl⟩ := Prod.mk.inj he
        exact ⟨List.mem_cons_self .., 0, by simp, rfl, rfl⟩
      · obtain ⟨h1, j, hj, rfl, rfl⟩ := mem_fixOf h
        exact ⟨List.mem_cons_of_mem _ h1, j + 1, by simpa using hj, by omega, rfl⟩
  | [], _, _, _, _, h => by simp [fixOf] at h
  | _ :: _, [], _, _, _, h => by simp [fixOf] at h

theorem fixOf_mem : ∀ {vs : List V} {us : List Value} {i j : Nat} (h : j < vs.length) (h' : j < us.length), vs[j].m ≠ 0 → (i + j, us[j]) ∈ fixOf i vs us
  | v :: vs, u :: us, i, j, h, h', hm => by
    simp only [fixOf]
    cases j with
    | zero =>
      simp only [List.getElem_cons_zero] at hm ⊢
      split
      · rename_i h0; exact absurd h0 hm
      · exact List.mem_cons_self ..
    | succ j =>
      simp only [List.getElem_cons_succ] at hm ⊢
      have := fixOf_mem (i := i + 1) (by simpa using h) (by simpa using h') hm
      rw [show i + 1 + j = i + (j + 1) by omega] at this
      split
      · exact this
      · exact List.mem_cons_of_mem _ this

theorem argsBack_get : ∀ {xs xs' : List V} {l : Env} {i : Nat}, argsBack l i xs xs' → xs'.length = xs.length ∧ ∀ j (h : j < xs.length) (h' : j < xs'.length), (xs[j].m = 0 ∧ xs'[j] = xs[j]) ∨ (xs[j].m ≠ 0 ∧ look l (i + j) = some (.val xs'[j].t xs'[j].m xs'[j].x))
  | [], [], _, _, _ => by simp
  | x :: xs, x' :: xs', l, i, h => by
    obtain ⟨h1, h2⟩ := argsBack_get h.2
    refine ⟨by simp [h1], fun j hj hj' => ?_⟩
    cases j with
    | zero => exact h.1
    | succ j =>
      have := h2 j (by simpa using hj) (by simpa using hj')
      rw [show i + 1 + j = i + (j + 1) by omega] at this
      simpa using this
  | [], _ :: _, _, _, h => h.elim
  | _ :: _, [], _, _, h => h.elim

def retQ (P : Program) (rvs : List ResultVar) (ys xs xs' : List V) : Exit → Env → Prop
  | .normal, l => ∃ l', ResTakes P l rvs ys l' ∧ argsBack l' 0 xs xs'
  | .ret, l => ∃ l', ResTakes P l rvs ys l' ∧ argsBack l' 0 xs xs'
  | _, _ => False

theorem Meets.of_body {P : Program} {f : FuncId} {fn : Func} {code : Code} {xs ys xs' : List V} (hf : P.funcs[f]? = some fn) (hb : fn.body = some code) (hn : Nat.ble fn.ntmps 999999 = true) (hx : Nat.ble xs.length fn.ntmps = true)
    (h : ∀ c : Ctx, c.n = fn.ntmps → (∀ k u, (k, u) ∈ c.fix → k ∈ ownIdx 0 xs) → AW P c code (retQ P fn.results.toList ys xs xs') (initEnv 0 xs)) : Meets P f xs ys xs' := by
  intro W lab us hargs
  have hn := Nat.le_of_ble_eq_true hn
  have hx := Nat.le_of_ble_eq_true hx
  let c : Ctx := ⟨W, lab, fixOf 0 xs us, fn.ntmps, hn⟩
  have hul := hargs.1
  refine calls_of_wp hf hb ?_
  have hsize : (us.toArray ++ Array.replicate (fn.ntmps - us.toArray.size) undef).size = fn.ntmps := by simp; omega
  have htmp : ∀ j (hj : j < us.length), (us.toArray ++ Array.replicate (fn.ntmps - us.toArray.size) undef)[j]? = some us[j] := by
    intro j hj
    rw [Array.getElem?_append_left (by simpa using hj)]
    simp [hj]
  have hR : Rel c (initEnv 0 xs) { tmps := us.toArray ++ Array.replicate (fn.ntmps - us.toArray.size) undef, defers := [] } W lab := by
    refine ⟨rfl, hsize, fun k u hm => ?_, ⟨rfl, rfl, rfl, Nat.le_refl _, fun b _ hl => ⟨hl, rfl⟩⟩, fun b q _ hl => ⟨hl, rfl⟩, fun k v v' h1 h2 => ?_, fun k v hm => ?_⟩
    · obtain ⟨_, j, hj, rfl, rfl⟩ := mem_fixOf hm
      rw [Nat.zero_add]
      exact htmp j hj
    · obtain ⟨j1, hj1, e1, rfl⟩ := mem_initEnv h1
      obtain ⟨j2, hj2, e2, rfl⟩ := mem_initEnv h2
      obtain rfl : j1 = j2 := by omega
      rfl
    · obtain ⟨j, hj, rfl, rfl⟩ := mem_initEnv hm
      rw [Nat.zero_add]
      exact ⟨us[j]'(by omega), htmp j (by omega), hargs.2 j hj (by omega)⟩
  refine wp_mono (h c rfl (fun k u hm => (mem_fixOf hm).1) _ W lab hR) ?_
  rintro e a' w' ⟨l', lab', hq, hR'⟩
  have fine : (∃ l'', ResTakes P l' fn.results.toList ys l'' ∧ argsBack l'' 0 xs xs') → a'.defers = [] ∧ ∃ v, (results fn a'.tmps).run P w' = .ok v w' ∧ ∃ vs lab', Ending.returned v = .returned (retVal vs) ∧ HoldRes lab' w' ys vs ∧ HoldArgs lab' w' xs' us ∧ Fr W lab w' lab' ∧
      ∀ b q, b < W.heap.size → lab b = some (hidden, q) → lab' b = some (hidden, q) ∧ w'.heap[b]? = W.heap[b]? := by
    rintro ⟨l'', hres, hback⟩
    obtain ⟨lab2, vs, hR2, hrun, hlen, hrep, _⟩ := resTakes_sound hres lab' 0 hR'
    obtain ⟨hxl, hxg⟩ := argsBack_get hback
    refine ⟨hR'.defers, retVal vs, run_results hrun, vs, lab2, rfl, ⟨hlen, fun k hk hk' => by simpa using hrep k hk hk'⟩, ⟨by omega, fun i hi hi' => ?_⟩, hR2.fr, hR2.hid⟩
    rcases hxg i (by omega) hi with ⟨h0, he⟩ | ⟨h0, he⟩
    · rw [he]
      have h1 := hargs.2 i (by omega) hi'
      rw [h0] at h1 ⊢
      exact ⟨h1.shape, rep_move_shared (fun b hb hl => hR2.fr.old b hb hl) h1.rep⟩
    · obtain ⟨u, hu, hr⟩ := hR2.vals _ _ (look_mem he)
      have hfix := hR2.fix _ _ (fixOf_mem (i := 0) (by omega) hi' h0)
      rw [hu] at hfix
      rw [← Option.some.inj hfix]
      simpa using hr
  cases e with
  | normal => exact fine hq
  | ret => exact fine hq
  | exit id => exact hq.elim
  | goto id => exact hq.elim
  | panic ch => exact hq.elim
  | outgrown => exact hq.elim


/-- Operations one after the other, and what stands behind them. -/
def RT (P : Program) (c : Ctx) (ops : Array Oper) (l : Env) (os : List Oper) (K : Env → Prop) : Prop := ∃ l', Runs P c ops l os l' ∧ K l'

section
variable {P : Program} {c : Ctx} {ops : Array Oper} {l : Env} {K : Env → Prop}

theorem RT.nil (h : K l) : RT P c ops l [] K := ⟨l, .nil, h⟩
theorem RT.cons {o : Oper} {os : List Oper} {out : Out} (hg : guardSays ops l o true) (hs : SR P c l o out) (h : RT P c ops (after l o.dst out) os K) : RT P c ops l (o :: os) K :=
  let ⟨l', h1, h2⟩ := h; ⟨l', .cons hg hs h1, h2⟩
theorem RT.pass {o : Oper} {os : List Oper} (hg : guardSays ops l o false) (h : RT P c ops (after l o.dst deadOut) os K) : RT P c ops l (o :: os) K :=
  let ⟨l', h1, h2⟩ := h; ⟨l', .pass hg h1, h2⟩
theorem RT.weaken {l1 : Env} {os : List Oper} (hs : subEnv l1 l) (h : RT P c ops l1 os K) : RT P c ops l os K :=
  let ⟨l', h1, h2⟩ := h; ⟨l', .cast (fun _ _ lab hR => ⟨lab, hR.weaken hs⟩) h1, h2⟩
theorem RT.cast {l1 : Env} {os : List Oper} (hs : CastTo c l l1) (h : RT P c ops l1 os K) : RT P c ops l os K :=
  let ⟨l', h1, h2⟩ := h; ⟨l', .cast hs h1, h2⟩

theorem AW.reg {Q : Exit → Env → Prop} {n : Nat} {fx : List Nat} {id : Nat} {os : List Oper} (hn : c.n = n) (hfx : ∀ k u, (k, u) ∈ c.fix → k ∈ fx) (hd : dstsOK n fx os = true) (h : RT P c os.toArray l os (Q .normal)) : AW P c (.region id os.toArray false) Q l :=
  let ⟨_, h1, h2⟩ := h; AW.region (dstsOK_spec hfx (by rw [hn]; exact hd)) h1 h2

/-- A part of a state, entry by entry. -/
def Sub : Env → Env → Prop
  | [], _ => True
  | (k, v) :: l', l => look l k = some v ∧ Sub l' l

theorem Sub.sub : ∀ {l' l : Env}, Sub l' l → subEnv l' l
  | [], _, _ => fun _ h => by simp at h
  | (k, v) :: l', l, h => fun kv hkv => by
    rcases List.mem_cons.1 hkv with rfl | hkv
    · exact look_mem h.1
    · exact Sub.sub h.2 kv hkv

def roundS {σ : Type} (env : σ → Env) (inv : σ → Prop) (μ : σ → Nat) (s : σ) (Q : Exit → Env → Prop) : Exit → Env → Prop
  | .normal, l => ∃ s', inv s' ∧ μ s' < μ s ∧ Sub (env s') l
  | e, l => Q e l

/-- A loop whose state is told by a parameter. -/
theorem AW.loopS {Q : Exit → Env → Prop} {x : Code} {σ : Type} (env : σ → Env) (inv : σ → Prop) (μ : σ → Nat) (s0 : σ) (h0 : inv s0) (hs : Sub (env s0) l) (h : ∀ s, inv s → AW P c x (roundS env inv μ s Q) (env s)) : AW P c (.loop x) Q l := by
  refine AW.loop (fun n e => ∃ s, inv s ∧ μ s = n ∧ e = env s) (μ s0) ⟨_, hs.sub, s0, h0, rfl, rfl⟩ ?_
  rintro n e ⟨s, hi, rfl, rfl⟩
  refine (h s hi).mono fun e l hq => ?_
  cases e with
  | normal => obtain ⟨s', h1, h2, h3⟩ := hq; exact ⟨μ s', env s', h2, h3.sub, s', h1, rfl, rfl⟩
  | _ => exact hq

theorem AW.sub {Q : Exit → Env → Prop} {code : Code} (l' : Env) (hs : Sub l' l) (h : AW P c code Q l') : AW P c code Q l := AW.weaken hs.sub h

end
end Go.Abs
