/- The walks: each function computes what its pure program says. -/
import Derived.Test.YtoaajjhcdbbfdaaTy
import Derived.Test.YtoaajjhcdbbfdaaPure
set_option linter.unusedSimpArgs false
set_option linter.unnecessarySimpa false
set_option linter.unusedVariables false
set_option maxRecDepth 100000
set_option maxHeartbeats 4000000
namespace Go.Proofs.Ytoaajjhcdbbfdaa
open Go.Abs Go.Pure
theorem hmix : Try.prog.follows .mixedOrders = true := by kernel_rfl
theorem W4  {code : (List Int)} {r : Bool} (h0 : laws_rBig code = some r) : Meets Try.prog 4 [⟨ty22, 0, code⟩] [⟨.bool, 0, r⟩] [⟨ty22, 0, code⟩] := by
 refine Meets.of_body (fn := Try.f4) Try.func4 rfl rfl rfl fun c hn hfx => ?_
 unfold laws_rBig at h0
 refine AW.seq (AW.reg hn hfx rfl ?_)
 refine .cons rfl (r_copy (.inr rfl) rfl rfl) <| .nil ?_
 refine AW.sub [(0, _)] ⟨rfl, trivial⟩ ?_
 refine AW.seq (AW.reg hn hfx rfl ?_)
 refine .cons rfl (r_copy (.inl rfl) rfl rfl) <| .cons rfl (r_len rfl rfl ok22 rfl) <| .cons rfl (r_cmp rfl rfl rfl rfl rfl) <| .cons rfl (r_copy (.inr rfl) rfl rfl) <| .nil ?_
 refine AW.sub [(2, _)] ⟨rfl, trivial⟩ ?_
 refine AW.ret ?_
 obtain rfl := Option.some.inj h0
 exact ⟨_, .tmp rfl rfl .nil, .inl ⟨rfl, rfl⟩, trivial⟩

theorem W84  {c_ : ((List Int) × (Int × (Int × Unit)))} {r : (Int × ((List Int) × (Int × (Int × Unit))))} (h0 : spec_l1Cur_next c_ = some r) : Meets Try.prog 84 [⟨(.ptr ty48), 1, c_⟩] [⟨tInt, 0, r.1⟩] [⟨(.ptr ty48), 1, r.2⟩] := by
 refine Meets.of_body (fn := Try.f84) Try.func84 rfl rfl rfl fun c hn hfx => ?_
 unfold spec_l1Cur_next at h0
 refine AW.seq (AW.reg hn hfx rfl ?_)
 refine .cons rfl (r_copy (.inr rfl) rfl rfl) <| .nil ?_
 refine AW.sub [(0, _)] ⟨rfl, trivial⟩ ?_
 refine AW.seq (AW.reg hn hfx rfl ?_)
 refine .cons rfl (r_copy (.inr rfl) rfl rfl) <| .nil ?_
 refine AW.sub [(0, _), (3, _)] ⟨rfl, rfl, trivial⟩ ?_
 refine AW.seq ?_
 refine AW.seq (AW.draw hmix hn hfx rfl rfl ?_)
 refine .cons rfl (r_aliasF rfl) rfl rfl rfl <| .cons rfl (r_nil rfl rfl rfl) rfl rfl rfl <| .cons rfl (r_field rfl rfl rfl rfl ok48 rfl rfl) rfl rfl rfl <| .cons rfl (r_load rfl rfl rfl rfl ok3 rfl) rfl rfl rfl ?_
 refine DT.eq [(7, _), (6, _), (5, _), (4, _), (0, _), (3, _)] rfl ?_
 refine .cons rfl (r_aliasF rfl) rfl rfl rfl <| .cons rfl (r_nil rfl rfl rfl) rfl rfl rfl <| .cons rfl (r_field rfl rfl rfl rfl ok48 rfl rfl) rfl rfl rfl <| .cons rfl (r_load rfl rfl rfl rfl ok22 rfl) rfl rfl rfl ?_
 refine DT.eq [(11, _), (10, _), (9, _), (8, _), (7, _), (6, _), (5, _), (4, _), (0, _), (3, _)] rfl ?_
 refine .cons rfl (r_len rfl rfl ok22 rfl) rfl rfl rfl <| .cons rfl (r_cmp rfl rfl rfl rfl rfl) rfl rfl rfl <| .nil rfl ?_
 refine AW.sub [(0, _), (3, _), (13, _)] ⟨rfl, rfl, rfl, trivial⟩ ?_
 obtain ⟨z3, h1, h0⟩ := bindE h0
 refine AW.joinJ [(0, _)] ⟨rfl, trivial⟩ [(3, .val tInt 0 z3)] ?_ ?_
 ·refine AW.ifP rfl h1 (fun h1 => ?_) (fun h1 => ?_)
  ·refine AW.draw hmix hn hfx rfl rfl ?_
   refine .cons rfl (r_aliasF rfl) rfl rfl rfl <| .cons rfl (r_nil rfl rfl rfl) rfl rfl rfl <| .cons rfl (r_field rfl rfl rfl rfl ok48 rfl rfl) rfl rfl rfl <| .cons rfl (r_load rfl rfl rfl rfl ok22 rfl) rfl rfl rfl ?_
   refine DT.eq [(17, _), (16, _), (15, _), (14, _), (0, _), (3, _), (13, _)] rfl ?_
   refine .cons rfl (r_aliasF rfl) rfl rfl rfl <| .cons rfl (r_nil rfl rfl rfl) rfl rfl rfl <| .cons rfl (r_field rfl rfl rfl rfl ok48 rfl rfl) rfl rfl rfl <| .cons rfl (r_load rfl rfl rfl rfl ok3 rfl) rfl rfl rfl ?_
   refine DT.eq [(21, _), (20, _), (19, _), (18, _), (17, _), (16, _), (15, _), (14, _), (0, _), (3, _), (13, _)] rfl ?_
   obtain ⟨x4, hx4, h1⟩ := bindE h1
   refine .cons rfl (r_index_shared rfl rfl rfl ok22 (idx_nn hx4) (idx_get hx4)) rfl rfl rfl <| .cons rfl (r_load_shared rfl rfl ok5) rfl rfl rfl <| .cons rfl (r_conv rfl rfl ok5 ok3 rfl) rfl rfl rfl <| .cons rfl (r_copy (.inr rfl) rfl rfl) rfl rfl rfl <| .nil rfl ?_
   obtain rfl := Option.some.inj h1
   exact ⟨rfl, rfl, trivial⟩
  ·refine AW.skip ?_
   obtain rfl := Option.some.inj h1
   exact ⟨rfl, rfl, trivial⟩
 ·intro l1 hl1
  refine AW.weaken hl1.sub ?_
  refine AW.seq (AW.reg hn hfx rfl ?_)
  refine .cons rfl (r_alias rfl rfl) <| .cons rfl (r_nil rfl rfl rfl) <| .cons rfl (r_field rfl rfl rfl rfl ok48 rfl rfl) <| .cons rfl (r_load rfl rfl rfl rfl ok3 rfl) ?_
  refine RT.sub [(0, _), (3, _), (25, _), (28, _)] ⟨rfl, rfl, rfl, rfl, trivial⟩ ?_
  refine .cons rfl (r_arith rfl rfl rfl rfl rfl) <| .cons rfl (r_nil rfl rfl rfl) <| .cons rfl (r_field rfl rfl rfl rfl ok48 rfl rfl) <| .cons rfl (r_store [] rfl rfl rfl rfl rfl rfl rfl rfl ok3 rfl rfl rfl rfl) <| .nil ?_
  refine AW.sub [(0, _), (3, _)] ⟨rfl, rfl, trivial⟩ ?_
  refine AW.seq (AW.reg hn hfx rfl ?_)
  refine .cons rfl (r_alias rfl rfl) <| .cons rfl (r_alias rfl rfl) <| .cons rfl (r_nil rfl rfl rfl) <| .cons rfl (r_field rfl rfl rfl rfl ok48 rfl rfl) ?_
  refine RT.sub [(0, _), (3, _), (32, _), (35, _)] ⟨rfl, rfl, rfl, rfl, trivial⟩ ?_
  refine .cons rfl (r_load rfl rfl rfl rfl ok46 rfl) <| .cons rfl (r_arith rfl rfl rfl rfl rfl) <| .cons rfl (r_copy (.inl rfl) rfl rfl) <| .cons rfl (r_conv rfl rfl ok3 ok46 rfl) ?_
  refine RT.sub [(0, _), (3, _), (32, _), (37, _), (39, _)] ⟨rfl, rfl, rfl, rfl, rfl, trivial⟩ ?_
  refine .cons rfl (r_arith rfl rfl rfl rfl rfl) <| .cons rfl (r_arith rfl rfl rfl rfl rfl) <| .cons rfl (r_nil rfl rfl rfl) <| .cons rfl (r_field rfl rfl rfl rfl ok48 rfl rfl) ?_
  refine RT.sub [(0, _), (3, _), (41, _), (43, _)] ⟨rfl, rfl, rfl, rfl, trivial⟩ ?_
  refine .cons rfl (r_store [] rfl rfl rfl rfl rfl rfl rfl rfl ok46 rfl rfl rfl rfl) <| .nil ?_
  refine AW.sub [(0, _), (3, _)] ⟨rfl, rfl, trivial⟩ ?_
  refine AW.seq ?_
  refine AW.seq (AW.draw hmix hn hfx rfl rfl ?_)
  refine .cons rfl (r_aliasF rfl) rfl rfl rfl <| .cons rfl (r_nil rfl rfl rfl) rfl rfl rfl <| .cons rfl (r_field rfl rfl rfl rfl ok48 rfl rfl) rfl rfl rfl <| .cons rfl (r_load rfl rfl rfl rfl ok3 rfl) rfl rfl rfl ?_
  refine DT.eq [(47, _), (46, _), (45, _), (44, _), (0, _), (3, _)] rfl ?_
  refine .cons rfl (r_aliasF rfl) rfl rfl rfl <| .cons rfl (r_nil rfl rfl rfl) rfl rfl rfl <| .cons rfl (r_field rfl rfl rfl rfl ok48 rfl rfl) rfl rfl rfl <| .cons rfl (r_load rfl rfl rfl rfl ok22 rfl) rfl rfl rfl ?_
  refine DT.eq [(51, _), (50, _), (49, _), (48, _), (47, _), (46, _), (45, _), (44, _), (0, _), (3, _)] rfl ?_
  refine .cons rfl (r_len rfl rfl ok22 rfl) rfl rfl rfl <| .cons rfl (r_cmp rfl rfl rfl rfl rfl) rfl rfl rfl <| .nil rfl ?_
  refine AW.sub [(0, _), (3, _), (53, _)] ⟨rfl, rfl, rfl, trivial⟩ ?_
  refine AW.ifP rfl h0 (fun h0 => ?_) (fun h0 => ?_)
  ·refine AW.seq (AW.reg hn hfx rfl ?_)
   refine .cons rfl (r_copy (.inl rfl) rfl rfl) <| .cons rfl (r_copy (.inr rfl) rfl rfl) <| .nil ?_
   refine AW.sub [(0, _), (2, _)] ⟨rfl, rfl, trivial⟩ ?_
   refine AW.ret ?_
   obtain rfl := Option.some.inj h0
   exact ⟨_, .tmp rfl rfl .nil, .inr ⟨nofun, rfl⟩, trivial⟩
  ·refine AW.skip ?_
   refine AW.seq (AW.reg hn hfx rfl ?_)
   refine .cons rfl (r_alias rfl rfl) <| .cons rfl (r_nil rfl rfl rfl) <| .cons rfl (r_field rfl rfl rfl rfl ok48 rfl rfl) <| .cons rfl (r_load rfl rfl rfl rfl ok46 rfl) ?_
   refine RT.sub [(0, _), (58, _)] ⟨rfl, rfl, trivial⟩ ?_
   refine .cons rfl (r_shr rfl rfl rfl (by decide) rfl) <| .cons rfl (r_bits rfl rfl rfl rfl rfl) <| .cons rfl (r_conv rfl rfl ok46 ok3 rfl) <| .cons rfl (r_copy (.inr rfl) rfl rfl) <| .nil ?_
   refine AW.sub [(0, _), (2, _)] ⟨rfl, rfl, trivial⟩ ?_
   refine AW.ret ?_
   obtain rfl := Option.some.inj h0
   exact ⟨_, .tmp rfl rfl .nil, .inr ⟨nofun, rfl⟩, trivial⟩

theorem W54  {c_ : ((List Int) × (Int × (Int × Unit)))} {n : Int} {r : (Int × ((List Int) × (Int × (Int × Unit))))} (h0 : spec_l1Cur_pick c_ n = some r) : Meets Try.prog 54 [⟨(.ptr ty48), 1, c_⟩, ⟨tInt, 0, n⟩] [⟨tInt, 0, r.1⟩] [⟨(.ptr ty48), 1, r.2⟩, ⟨tInt, 0, n⟩] := by
 refine Meets.of_body (fn := Try.f54) Try.func54 rfl rfl rfl fun c hn hfx => ?_
 unfold spec_l1Cur_pick at h0
 refine AW.seq (AW.reg hn hfx rfl ?_)
 refine .cons rfl (r_copy (.inr rfl) rfl rfl) <| .nil ?_
 refine AW.sub [(0, _), (1, _)] ⟨rfl, rfl, trivial⟩ ?_
 refine AW.seq ?_
 refine AW.seq (AW.reg hn hfx rfl ?_)
 refine .cons rfl (r_copy (.inl rfl) rfl rfl) <| .cons rfl (r_cmp rfl rfl rfl rfl rfl) <| .nil ?_
 refine AW.sub [(0, _), (1, _), (7, _)] ⟨rfl, rfl, rfl, trivial⟩ ?_
 refine AW.ifP rfl h0 (fun h0 => ?_) (fun h0 => ?_)
 ·refine AW.seq (AW.reg hn hfx rfl ?_)
  refine .cons rfl (r_copy (.inr rfl) rfl rfl) <| .nil ?_
  refine AW.sub [(0, _), (4, _)] ⟨rfl, rfl, trivial⟩ ?_
  refine AW.ret ?_
  obtain rfl := Option.some.inj h0
  exact ⟨_, .tmp rfl rfl .nil, .inr ⟨nofun, rfl⟩, .inl ⟨rfl, rfl⟩, trivial⟩
 ·refine AW.skip ?_
  refine AW.seq (AW.reg hn hfx rfl ?_)
  refine .cons rfl (r_alias rfl rfl) ?_
  obtain ⟨x1, hx1, h0⟩ := bindE h0
  refine .cons rfl (r_callM [] rfl rfl rfl Try.func84 rfl rfl (fun us0 _ => (W84 hx1).toU (us0 ++ [])) (.io rfl .nil) rfl) <| .cons rfl (r_copy (.inr rfl) rfl rfl) <| .nil ?_
  refine AW.sub [(0, _), (1, _), (5, _)] ⟨rfl, rfl, rfl, trivial⟩ ?_
  refine AW.seq ?_
  refine AW.seq (AW.reg hn hfx rfl ?_)
  refine .cons rfl (r_copy (.inl rfl) rfl rfl) <| .cons rfl (r_cmp rfl rfl rfl rfl rfl) <| .nil ?_
  refine AW.sub [(0, _), (1, _), (5, _), (11, _)] ⟨rfl, rfl, rfl, rfl, trivial⟩ ?_
  obtain ⟨z4, h1, h0⟩ := bindE h0
  refine AW.joinJ [(1, _)] ⟨rfl, trivial⟩ [(0, .val (.ptr ty48) 1 z4.1), (5, .val tInt 0 z4.2)] ?_ ?_
  ·refine AW.ifP rfl h1 (fun h1 => ?_) (fun h1 => ?_)
   ·refine AW.reg hn hfx rfl ?_
    refine .cons rfl (r_copy (.inl rfl) rfl rfl) <| .cons rfl (r_arith rfl rfl rfl rfl rfl) <| .cons rfl (r_alias rfl rfl) ?_
    obtain ⟨x5, hx5, h1⟩ := bindE h1
    refine .cons rfl (r_callM [] rfl rfl rfl Try.func84 rfl rfl (fun us0 _ => (W84 hx5).toU (us0 ++ [])) (.io rfl .nil) rfl) ?_
    refine RT.sub [(0, _), (1, _), (13, _), (15, _)] ⟨rfl, rfl, rfl, rfl, trivial⟩ ?_
    refine .cons rfl (r_arith rfl rfl rfl rfl rfl) <| .cons rfl (r_copy (.inr rfl) rfl rfl) <| .nil ?_
    obtain rfl := Option.some.inj h1
    exact ⟨rfl, rfl, rfl, trivial⟩
   ·refine AW.skip ?_
    obtain rfl := Option.some.inj h1
    exact ⟨rfl, rfl, rfl, trivial⟩
  ·intro l1 hl1
   refine AW.weaken hl1.sub ?_
   refine AW.seq (AW.reg hn hfx rfl ?_)
   refine .cons rfl (r_copy (.inl rfl) rfl rfl) <| .cons rfl (r_copy (.inl rfl) rfl rfl) ?_
   obtain ⟨_, hx7, h0⟩ := bindE h0
   refine .cons rfl (r_rem rfl rfl rfl (needE hx7) rfl) <| .cons rfl (r_copy (.inr rfl) rfl rfl) <| .nil ?_
   refine AW.sub [(0, _), (4, _)] ⟨rfl, rfl, trivial⟩ ?_
   refine AW.ret ?_
   obtain rfl := Option.some.inj h0
   exact ⟨_, .tmp rfl rfl .nil, .inr ⟨nofun, rfl⟩, .inl ⟨rfl, rfl⟩, trivial⟩

theorem W53  {c_ : ((List Int) × (Int × (Int × Unit)))} {list : (List Int)} {r : (Int × ((List Int) × (Int × (Int × Unit))))} (h0 : spec_l1Cur_among c_ list = some r) : Meets Try.prog 53 [⟨(.ptr ty48), 1, c_⟩, ⟨ty38, 0, list⟩] [⟨tInt, 0, r.1⟩] [⟨(.ptr ty48), 1, r.2⟩, ⟨ty38, 0, list⟩] := by
 refine Meets.of_body (fn := Try.f53) Try.func53 rfl rfl rfl fun c hn hfx => ?_
 unfold spec_l1Cur_among at h0
 refine AW.seq (AW.reg hn hfx rfl ?_)
 refine .cons rfl (r_copy (.inr rfl) rfl rfl) <| .nil ?_
 refine AW.sub [(0, _), (1, _)] ⟨rfl, rfl, trivial⟩ ?_
 refine AW.seq (AW.reg hn hfx rfl ?_)
 refine .cons rfl (r_copy (.inl rfl) rfl rfl) <| .cons rfl (r_alias rfl rfl) <| .cons rfl (r_copy (.inl rfl) rfl rfl) <| .cons rfl (r_len rfl rfl ok38 rfl) ?_
 refine RT.sub [(0, _), (5, _), (6, _), (8, _)] ⟨rfl, rfl, rfl, rfl, trivial⟩ ?_
 obtain ⟨x1, hx1, h0⟩ := bindE h0
 refine .cons rfl (r_callM [] rfl rfl rfl Try.func54 rfl rfl (fun us0 _ => (W54 hx1).toU (us0 ++ [])) (.io rfl (.lend rfl .nil)) rfl) ?_
 obtain ⟨x2, hx2, h0⟩ := bindE h0
 refine .cons rfl (r_index_shared rfl rfl rfl ok38 (idx_nn hx2) (idx_get hx2)) <| .cons rfl (r_load_shared rfl rfl ok3) <| .cons rfl (r_copy (.inr rfl) rfl rfl) <| .nil ?_
 refine AW.sub [(0, _), (4, _)] ⟨rfl, rfl, trivial⟩ ?_
 refine AW.ret ?_
 obtain rfl := Option.some.inj h0
 exact ⟨_, .tmp rfl rfl .nil, .inr ⟨nofun, rfl⟩, .inl ⟨rfl, rfl⟩, trivial⟩

theorem W24  {c_ : ((List Int) × (Int × (Int × Unit)))} {n : Int} {r : ((List Int) × ((List Int) × (Int × (Int × Unit))))} (h0 : spec_l1Cur_names2 c_ n = some r) : Meets Try.prog 24 [⟨(.ptr ty48), 1, c_⟩, ⟨tInt, 0, n⟩] [⟨ty38, 1, r.1⟩] [⟨(.ptr ty48), 1, r.2⟩, ⟨tInt, 0, n⟩] := by
 refine Meets.of_body (fn := Try.f24) Try.func24 rfl rfl rfl fun c hn hfx => ?_
 unfold spec_l1Cur_names2 at h0
 refine AW.seq (AW.reg hn hfx rfl ?_)
 refine .cons rfl (r_nilS (m := 1) (.inr rfl) ok38) <| .nil ?_
 refine AW.sub [(0, _), (1, _)] ⟨rfl, rfl, trivial⟩ ?_
 refine AW.seq (AW.reg hn hfx rfl ?_)
 refine .cons rfl (r_buildSlice [] (e := tInt) (mc := 0) rfl rfl rfl ok38 rfl rfl rfl) <| .cons rfl (r_assign [] (.inl rfl) rfl rfl) <| .nil ?_
 refine AW.sub [(0, _), (1, _), (5, _)] ⟨rfl, rfl, rfl, trivial⟩ ?_
 refine AW.seq ?_
 refine AW.seq (AW.reg hn hfx rfl ?_)
 refine .cons rfl (r_copy (.inr rfl) rfl rfl) <| .nil ?_
 refine AW.sub [(0, _), (1, _), (5, _), (6, _)] ⟨rfl, rfl, rfl, rfl, trivial⟩ ?_
 obtain ⟨z17, h1, h0⟩ := bindE h0
 refine AW.joinJ [(1, _)] ⟨rfl, trivial⟩ [(0, .val (.ptr ty48) 1 z17.1), (5, .val ty38 1 z17.2)] ?_ ?_
 ·refine AW.block ?_
  refine AW.loopP h1 [(1, _)] ⟨rfl, trivial⟩ (fun s25 => [(0, .val (.ptr ty48) 1 s25.1), (5, .val ty38 1 s25.2.1), (6, .val tInt 0 s25.2.2)]) ⟨rfl, rfl, rfl, rfl, trivial⟩ fun s25 z32 h2 => ?_
  refine AW.seq ?_
  refine AW.seq (AW.reg hn hfx rfl ?_)
  refine .cons rfl (r_copy (.inl rfl) rfl rfl) <| .cons rfl (r_copy (.inl rfl) rfl rfl) <| .cons rfl (r_cmp rfl rfl rfl rfl rfl) <| .nil ?_
  refine AW.sub [(0, _), (1, _), (5, _), (6, _), (11, _)] ⟨rfl, rfl, rfl, rfl, rfl, trivial⟩ ?_
  refine AW.ifP rfl h2 (fun h2 => ?_) (fun h2 => ?_)
  ·refine AW.skip ?_
   refine AW.seq (AW.block ?_)
   refine AW.seq (AW.reg hn hfx rfl ?_)
   refine .cons rfl (r_alias rfl rfl) <| .cons rfl (r_alias rfl rfl) <| .cons rfl (r_len_own rfl rfl rfl rfl ok38 rfl) <| .cons rfl (r_arith rfl rfl rfl rfl rfl) ?_
   refine RT.sub [(0, _), (1, _), (5, _), (6, _), (14, _), (17, _)] ⟨rfl, rfl, rfl, rfl, rfl, rfl, trivial⟩ ?_
   obtain ⟨x26, hx26, h2⟩ := bindE h2
   refine .cons rfl (r_callM [] rfl rfl rfl Try.func54 rfl rfl (fun us0 _ => (W54 hx26).toU (us0 ++ [])) (.io rfl (.lend rfl .nil)) rfl) <| .cons rfl (r_copy (.inr rfl) rfl rfl) <| .nil ?_
   refine AW.sub [(0, _), (1, _), (5, _), (6, _), (7, _)] ⟨rfl, rfl, rfl, rfl, rfl, trivial⟩ ?_
   refine AW.lower 5 0 rfl ?_
   refine AW.draw hmix hn hfx rfl rfl ?_
   refine .cons rfl (r_buildSlice [] (e := tInt) (mc := 0) rfl rfl rfl ok38 rfl rfl rfl) rfl rfl rfl <| .cons rfl (r_copy (.inl rfl) rfl rfl) rfl rfl rfl <| .cons rfl (r_copy (.inl rfl) rfl rfl) rfl rfl rfl ?_
   obtain ⟨x27, hx27, h2⟩ := bindE h2
   refine .cons rfl (r_cutL rfl rfl rfl ok38 hx27) rfl rfl rfl ?_
   refine DT.eq [(22, _), (21, _), (20, _), (19, _), (5, _), (0, _), (1, _), (6, _), (7, _)] rfl ?_
   obtain ⟨x28, hx28, h2⟩ := bindE h2
   refine .cons rfl (r_append [] rfl rfl rfl ok38 rfl (mr := 0) rfl rfl (app_len hx28) (app_eq hx28)) rfl rfl rfl <| .cons rfl (r_copy (.inl rfl) rfl rfl) rfl rfl rfl <| .cons rfl (r_buildSlice [] (e := tInt) (mc := 0) rfl rfl rfl ok38 rfl rfl rfl) rfl rfl rfl ?_
   obtain ⟨x29, hx29, h2⟩ := bindE h2
   refine .cons rfl (r_append [] rfl rfl rfl ok38 rfl (mr := 0) rfl rfl (app_len hx29) (app_eq hx29)) rfl rfl rfl ?_
   refine DT.eq [(26, _), (24, _), (22, _), (21, _), (20, _), (5, _), (0, _), (1, _), (6, _), (7, _)] rfl ?_
   refine .cons rfl (r_copy (.inl rfl) rfl rfl) rfl rfl rfl <| .cons rfl (r_copy (.inl rfl) rfl rfl) rfl rfl rfl ?_
   obtain ⟨x30, hx30, h2⟩ := bindE h2
   refine .cons rfl (r_cutH rfl rfl rfl ok38 hx30) rfl rfl rfl ?_
   obtain ⟨x31, hx31, h2⟩ := bindE h2
   refine .cons rfl (r_append [] rfl rfl rfl ok38 rfl (mr := 0) rfl rfl (app_len hx31) (app_eq hx31)) rfl rfl rfl ?_
   refine DT.eq [(30, _), (29, _), (28, _), (27, _), (24, _), (22, _), (21, _), (20, _), (5, _), (0, _), (1, _), (6, _), (7, _)] rfl ?_
   refine .cons rfl (r_assign [] (.inl rfl) rfl rfl) rfl rfl rfl <| .nil rfl ?_
   refine AW.sub [(0, _), (1, _), (5, _), (6, _)] ⟨rfl, rfl, rfl, rfl, trivial⟩ ?_
   refine AW.reg hn hfx rfl ?_
   refine .cons rfl (r_copy (.inl rfl) rfl rfl) <| .cons rfl (r_arith rfl rfl rfl rfl rfl) <| .cons rfl (r_copy (.inr rfl) rfl rfl) <| .nil ?_
   exact ⟨_, (Option.some.inj h2).symm, ⟨rfl, rfl, rfl, rfl, trivial⟩⟩
  ·refine AW.exit ?_
   refine ⟨_, (Option.some.inj h2).symm, fun hz => ?_⟩
   subst hz
   exact ⟨rfl, rfl, rfl, trivial⟩
 ·intro l1 hl1
  refine AW.weaken hl1.sub ?_
  refine AW.seq ?_
  refine AW.seq (AW.reg hn hfx rfl ?_)
  refine .cons rfl (r_alias rfl rfl) ?_
  obtain ⟨x34, hx34, h0⟩ := bindE h0
  refine .cons rfl (r_callM [] rfl rfl rfl Try.func54 rfl rfl (fun us0 _ => (W54 hx34).toU (us0 ++ [])) (.io rfl (.lend rfl .nil)) rfl) <| .nil ?_
  refine AW.sub [(0, _), (1, _), (5, _), (32, _)] ⟨rfl, rfl, rfl, rfl, trivial⟩ ?_
  refine AW.block ?_
  refine AW.seq (AW.reg hn hfx rfl ?_)
  refine .cons rfl (r_cmp rfl rfl rfl rfl rfl) <| .cons rfl (r_copy (.inr rfl) rfl rfl) <| .nil ?_
  refine AW.sub [(0, _), (1, _), (5, _), (32, _), (33, _)] ⟨rfl, rfl, rfl, rfl, rfl, trivial⟩ ?_
  obtain ⟨z40, h1, h0⟩ := bindE h0
  refine AW.joinJ [] trivial [(0, .val (.ptr ty48) 1 z40.1), (5, .val ty38 1 z40.2)] ?_ ?_
  ·refine AW.ifP rfl h1 (fun h1 => ?_) (fun h1 => ?_)
   ·refine AW.reg hn hfx rfl ?_
    refine .cons rfl (r_alias rfl rfl) <| .cons rfl (r_copy (.inl rfl) rfl rfl) <| .cons rfl (r_buildSlice [] (e := tInt) (mc := 0) rfl rfl rfl ok38 rfl rfl rfl) ?_
    obtain ⟨x41, hx41, h1⟩ := bindE h1
    refine .cons rfl (r_append [] rfl rfl rfl ok38 rfl (mr := 0) rfl rfl (app_len hx41) (app_eq hx41)) ?_
    refine RT.sub [(0, _), (38, _)] ⟨rfl, rfl, trivial⟩ ?_
    refine .cons rfl (r_assign [] (.inl rfl) rfl rfl) <| .nil ?_
    obtain rfl := Option.some.inj h1
    exact ⟨rfl, rfl, trivial⟩
   ·refine AW.seq (AW.reg hn hfx rfl ?_)
    refine .cons rfl (r_cmp rfl rfl rfl rfl rfl) <| .cons rfl (r_copy (.inr rfl) rfl rfl) <| .nil ?_
    refine AW.sub [(0, _), (1, _), (5, _), (39, _)] ⟨rfl, rfl, rfl, rfl, trivial⟩ ?_
    refine AW.ifP rfl h1 (fun h1 => ?_) (fun h1 => ?_)
    ·refine AW.seq (AW.reg hn hfx rfl ?_)
     refine .cons rfl (r_copy (.inl rfl) rfl rfl) <| .cons rfl (r_cmp rfl rfl rfl rfl rfl) <| .nil ?_
     refine AW.sub [(0, _), (1, _), (5, _), (42, _)] ⟨rfl, rfl, rfl, rfl, trivial⟩ ?_
     refine AW.ifP rfl h1 (fun h1 => ?_) (fun h1 => ?_)
     ·refine AW.reg hn hfx rfl ?_
      refine .cons rfl (r_alias rfl rfl) <| .cons rfl (r_alias rfl rfl) <| .cons rfl (r_copy (.inl rfl) rfl rfl) ?_
      obtain ⟨x42, hx42, h1⟩ := bindE h1
      refine .cons rfl (r_callM [] rfl rfl rfl Try.func54 rfl rfl (fun us0 _ => (W54 hx42).toU (us0 ++ [])) (.io rfl (.lend rfl .nil)) rfl) ?_
      refine RT.sub [(0, _), (1, _), (5, _), (43, _), (46, _)] ⟨rfl, rfl, rfl, rfl, rfl, trivial⟩ ?_
      refine .cons rfl (r_alias rfl rfl) <| .cons rfl (r_copy (.inl rfl) rfl rfl) <| .cons rfl (r_buildSlice [] (e := tInt) (mc := 0) rfl rfl rfl ok38 rfl rfl rfl) ?_
      refine RT.lower 49 0 rfl ?_
      obtain ⟨x43, hx43, h1⟩ := bindE h1
      refine .cons rfl (r_callM [] rfl rfl rfl Try.func53 rfl rfl (fun us0 _ => (W53 hx43).toU (us0 ++ [])) (.io rfl (.lend rfl .nil)) rfl) ?_
      refine RT.sub [(0, _), (5, _), (43, _), (46, _), (50, _)] ⟨rfl, rfl, rfl, rfl, rfl, trivial⟩ ?_
      obtain ⟨x44, hx44, h1⟩ := bindE h1
      refine .cons rfl (r_index_own rfl rfl rfl rfl rfl ok38 (idx_nn hx44) (idx_lt hx44)) <| .cons rfl (r_store [] rfl rfl rfl rfl rfl rfl rfl (sub_app rfl (sub_e (idx_get hx44))) ok3 rfl rfl rfl (repl_app rfl (repl_e (idx_get hx44)) rfl)) <| .nil ?_
      obtain rfl := Option.some.inj h1
      exact ⟨rfl, rfl, trivial⟩
     ·refine AW.skip ?_
      obtain rfl := Option.some.inj h1
      exact ⟨rfl, rfl, trivial⟩
    ·refine AW.skip ?_
     obtain rfl := Option.some.inj h1
     exact ⟨rfl, rfl, trivial⟩
  ·intro l1 hl1
   refine AW.weaken hl1.sub ?_
   refine AW.seq (AW.reg hn hfx rfl ?_)
   refine .cons rfl (r_alias rfl rfl) <| .cons rfl (r_assign [52] (.inl rfl) rfl rfl) <| .nil ?_
   refine AW.sub [(0, _), (4, _)] ⟨rfl, rfl, trivial⟩ ?_
   refine AW.ret ?_
   obtain rfl := Option.some.inj h0
   exact ⟨_, .tmp rfl rfl .nil, .inr ⟨nofun, rfl⟩, .inl ⟨rfl, rfl⟩, trivial⟩

theorem W55  {x : Int} {a : Int} {b : Int} {r : Bool} (h0 : spec_l1In x a b = some r) : Meets Try.prog 55 [⟨tInt, 0, x⟩, ⟨tInt, 0, a⟩, ⟨tInt, 0, b⟩] [⟨.bool, 0, r⟩] [⟨tInt, 0, x⟩, ⟨tInt, 0, a⟩, ⟨tInt, 0, b⟩] := by
 refine Meets.of_body (fn := Try.f55) Try.func55 rfl rfl rfl fun c hn hfx => ?_
 unfold spec_l1In at h0
 refine AW.seq (AW.reg hn hfx rfl ?_)
 refine .cons rfl (r_copy (.inr rfl) rfl rfl) <| .nil ?_
 refine AW.sub [(0, _), (1, _), (2, _)] ⟨rfl, rfl, rfl, trivial⟩ ?_
 obtain ⟨z2, h1, h0⟩ := bindE h0
 refine AW.seq (AW.joinJ [] trivial [(6, .val .bool 0 z2)] ?_ ?_)
 ·refine AW.reg hn hfx rfl ?_
  refine .cons rfl (r_copy (.inl rfl) rfl rfl) <| .cons rfl (r_copy (.inl rfl) rfl rfl) <| .cons rfl (r_cmp rfl rfl rfl rfl rfl) ?_
  refine .ifP (.inl rfl) rfl rfl h1 (fun h1 => ?_) (fun h1 => ?_)
  ·refine RT.sub [(0, _), (2, _), (10, _)] ⟨rfl, rfl, rfl, trivial⟩ ?_
   refine .cons (.inl ⟨_, _, _, rfl, rfl, rfl⟩) (r_copy (.inl rfl) rfl rfl) <| .cons (.inl ⟨_, _, _, rfl, rfl, rfl⟩) (r_copy (.inl rfl) rfl rfl) <| .cons (.inl ⟨_, _, _, rfl, rfl, rfl⟩) (r_cmp rfl rfl rfl rfl rfl) <| .cons rfl (r_pick_true rfl rfl rfl rfl) ?_
   refine RT.sub [(14, _)] ⟨rfl, trivial⟩ ?_
   refine .cons rfl (r_copy (.inr rfl) rfl rfl) <| .nil ?_
   obtain rfl := Option.some.inj h1
   exact ⟨rfl, trivial⟩
  ·refine RT.sub [(0, _), (2, _), (10, _)] ⟨rfl, rfl, rfl, trivial⟩ ?_
   refine .pass (.inl ⟨_, _, _, rfl, rfl, rfl⟩) <| .pass (.inl ⟨_, _, _, rfl, rfl, rfl⟩) <| .pass (.inl ⟨_, _, _, rfl, rfl, rfl⟩) <| .cons rfl (r_pick_false rfl rfl rfl rfl) ?_
   refine RT.sub [(14, _)] ⟨rfl, trivial⟩ ?_
   refine .cons rfl (r_copy (.inr rfl) rfl rfl) <| .nil ?_
   obtain rfl := Option.some.inj h1
   exact ⟨rfl, trivial⟩
 ·intro l1 hl1
  refine AW.weaken hl1.sub ?_
  refine AW.ret ?_
  obtain rfl := Option.some.inj h0
  exact ⟨_, .tmp rfl rfl .nil, .inl ⟨rfl, rfl⟩, .inl ⟨rfl, rfl⟩, .inl ⟨rfl, rfl⟩, trivial⟩

theorem W57  {n : Int} {list : (List Int)} {r : Bool} (h0 : spec_l2Elements n list = some r) : Meets Try.prog 57 [⟨tInt, 0, n⟩, ⟨ty38, 0, list⟩] [⟨.bool, 0, r⟩] [⟨tInt, 0, n⟩, ⟨ty38, 0, list⟩] := by
 refine Meets.of_body (fn := Try.f57) Try.func57 rfl rfl rfl fun c hn hfx => ?_
 unfold spec_l2Elements at h0
 refine AW.seq (AW.reg hn hfx rfl ?_)
 refine .cons rfl (r_copy (.inr rfl) rfl rfl) <| .nil ?_
 refine AW.sub [(0, _), (1, _)] ⟨rfl, rfl, trivial⟩ ?_
 refine AW.seq ?_
 refine AW.seq (AW.reg hn hfx rfl ?_)
 refine .cons rfl (r_copy (.inr rfl) rfl rfl) <| .nil ?_
 refine AW.sub [(0, _), (1, _), (5, _)] ⟨rfl, rfl, rfl, trivial⟩ ?_
 obtain ⟨z9, h1, h0⟩ := bindE h0
 refine AW.joinX z9 [] trivial (fun s8 => []) ?_ ?_
 ·refine AW.block ?_
  refine AW.loopP h1 [(0, _), (1, _)] ⟨rfl, rfl, trivial⟩ (fun s13 => [(5, .val tInt 0 s13)]) ⟨rfl, rfl, rfl, trivial⟩ fun s13 z16 h2 => ?_
  refine AW.seq ?_
  refine AW.seq (AW.reg hn hfx rfl ?_)
  refine .cons rfl (r_copy (.inl rfl) rfl rfl) <| .cons rfl (r_copy (.inl rfl) rfl rfl) <| .cons rfl (r_len rfl rfl ok38 rfl) <| .cons rfl (r_cmp rfl rfl rfl rfl rfl) <| .nil ?_
  refine AW.sub [(0, _), (1, _), (5, _), (9, _)] ⟨rfl, rfl, rfl, rfl, trivial⟩ ?_
  refine AW.ifP rfl h2 (fun h2 => ?_) (fun h2 => ?_)
  ·refine AW.skip ?_
   refine AW.seq (AW.block ?_)
   refine AW.seq (AW.reg hn hfx rfl ?_)
   refine .cons rfl (r_copy (.inl rfl) rfl rfl) <| .cons rfl (r_copy (.inl rfl) rfl rfl) ?_
   obtain ⟨x14, hx14, h2⟩ := bindE h2
   refine .cons rfl (r_index_shared rfl rfl rfl ok38 (idx_nn hx14) (idx_get hx14)) <| .cons rfl (r_load_shared rfl rfl ok3) ?_
   refine RT.sub [(0, _), (1, _), (5, _), (15, _)] ⟨rfl, rfl, rfl, rfl, trivial⟩ ?_
   refine .cons rfl (r_copy (.inl rfl) rfl rfl) <| .cons rfl (r_arith rfl rfl rfl rfl rfl) ?_
   obtain ⟨x15, hx15, h2⟩ := bindE h2
   refine .cons rfl (r_call rfl rfl rfl Try.func55 rfl rfl (W55 hx15) rfl) <| .cons rfl (r_not rfl rfl rfl) <| .nil ?_
   refine AW.sub [(0, _), (1, _), (5, _), (19, _)] ⟨rfl, rfl, rfl, rfl, trivial⟩ ?_
   refine AW.ifP rfl h2 (fun h2 => ?_) (fun h2 => ?_)
   ·refine AW.seq (AW.reg hn hfx rfl ?_)
    refine .cons rfl (r_copy (.inr rfl) rfl rfl) <| .nil ?_
    refine AW.sub [(4, _)] ⟨rfl, trivial⟩ ?_
    refine AW.ret ?_
    refine ⟨_, (Option.some.inj h2).symm, fun hz => ?_⟩
    subst hz
    obtain rfl := Option.some.inj h0
    exact ⟨_, .tmp rfl rfl .nil, .inl ⟨rfl, rfl⟩, .inl ⟨rfl, rfl⟩, trivial⟩
   ·refine AW.skip ?_
    refine AW.reg hn hfx rfl ?_
    refine .cons rfl (r_copy (.inl rfl) rfl rfl) <| .cons rfl (r_arith rfl rfl rfl rfl rfl) <| .cons rfl (r_copy (.inr rfl) rfl rfl) <| .nil ?_
    exact ⟨_, (Option.some.inj h2).symm, ⟨rfl, rfl, rfl, trivial⟩⟩
  ·refine AW.exit ?_
   refine ⟨_, (Option.some.inj h2).symm, fun hz => ?_⟩
   subst hz
   exact ⟨_, rfl, trivial⟩
 ·rintro s8 rfl l1 hl1
  refine AW.weaken hl1.sub ?_
  refine AW.seq (AW.reg hn hfx rfl ?_)
  refine .cons rfl (r_copy (.inr rfl) rfl rfl) <| .nil ?_
  refine AW.sub [(4, _)] ⟨rfl, trivial⟩ ?_
  refine AW.ret ?_
  obtain rfl := Option.some.inj h0
  exact ⟨_, .tmp rfl rfl .nil, .inl ⟨rfl, rfl⟩, .inl ⟨rfl, rfl⟩, trivial⟩

theorem W26  {l_ : (List Int)} {n : Int} {r : Bool} (h0 : spec_l2Perm l_ n = some r) : Meets Try.prog 26 [⟨ty38, 0, l_⟩, ⟨tInt, 0, n⟩] [⟨.bool, 0, r⟩] [⟨ty38, 0, l_⟩, ⟨tInt, 0, n⟩] := by
 refine Meets.of_body (fn := Try.f26) Try.func26 rfl rfl rfl fun c hn hfx => ?_
 unfold spec_l2Perm at h0
 refine AW.seq (AW.reg hn hfx rfl ?_)
 refine .cons rfl (r_copy (.inr rfl) rfl rfl) <| .nil ?_
 refine AW.sub [(0, _), (1, _)] ⟨rfl, rfl, trivial⟩ ?_
 refine AW.seq ?_
 obtain ⟨z3, h1, h0⟩ := bindE h0
 refine AW.seq (AW.joinJ [(0, _), (1, _)] ⟨rfl, rfl, trivial⟩ [(16, .val .bool 0 z3)] ?_ ?_)
 ·refine AW.reg hn hfx rfl ?_
  refine .cons rfl (r_copy (.inl rfl) rfl rfl) <| .cons rfl (r_len rfl rfl ok38 rfl) <| .cons rfl (r_copy (.inl rfl) rfl rfl) <| .cons rfl (r_cmp rfl rfl rfl rfl rfl) ?_
  refine RT.sub [(0, _), (1, _), (10, _)] ⟨rfl, rfl, rfl, trivial⟩ ?_
  refine .ifP (.inl rfl) rfl rfl h1 (fun h1 => ?_) (fun h1 => ?_)
  ·refine .pass (.inl ⟨_, _, _, rfl, rfl, rfl⟩) <| .pass (.inl ⟨_, _, _, rfl, rfl, rfl⟩) <| .pass (.inl ⟨_, _, _, rfl, rfl, rfl⟩) ?_
   refine RT.sub [(0, _), (1, _), (11, _), (14, _)] ⟨rfl, rfl, rfl, rfl, trivial⟩ ?_
   refine .pass (.inl ⟨_, _, _, rfl, rfl, rfl⟩) <| .cons rfl (r_pick_true rfl rfl rfl rfl) <| .nil ?_
   obtain rfl := Option.some.inj h1
   exact ⟨rfl, rfl, rfl, trivial⟩
  ·refine .cons (.inl ⟨_, _, _, rfl, rfl, rfl⟩) (r_copy (.inl rfl) rfl rfl) <| .cons (.inl ⟨_, _, _, rfl, rfl, rfl⟩) (r_copy (.inl rfl) rfl rfl) ?_
   obtain ⟨x4, hx4, h1⟩ := bindE h1
   refine .cons (.inl ⟨_, _, _, rfl, rfl, rfl⟩) (r_call rfl rfl rfl Try.func57 rfl rfl (W57 hx4) rfl) ?_
   refine RT.sub [(0, _), (1, _), (11, _), (14, _)] ⟨rfl, rfl, rfl, rfl, trivial⟩ ?_
   refine .cons (.inl ⟨_, _, _, rfl, rfl, rfl⟩) (r_not rfl rfl rfl) <| .cons rfl (r_pick_false rfl rfl rfl rfl) <| .nil ?_
   obtain rfl := Option.some.inj h1
   exact ⟨rfl, rfl, rfl, trivial⟩
 ·intro l1 hl1
  refine AW.weaken hl1.sub ?_
  refine AW.ifP rfl h0 (fun h0 => ?_) (fun h0 => ?_)
  ·refine AW.seq (AW.reg hn hfx rfl ?_)
   refine .cons rfl (r_copy (.inr rfl) rfl rfl) <| .nil ?_
   refine AW.sub [(4, _)] ⟨rfl, trivial⟩ ?_
   refine AW.ret ?_
   obtain rfl := Option.some.inj h0
   exact ⟨_, .tmp rfl rfl .nil, .inl ⟨rfl, rfl⟩, .inl ⟨rfl, rfl⟩, trivial⟩
  ·refine AW.skip ?_
   refine AW.seq (AW.reg hn hfx rfl ?_)
   refine .cons rfl (r_copy (.inl rfl) rfl rfl) ?_
   obtain ⟨x6, hx6, h0⟩ := bindE h0
   refine .cons rfl (r_mkS rfl rfl rfl ok74 rfl hx6) <| .cons rfl (r_assign [] (.inl rfl) rfl rfl) <| .nil ?_
   refine AW.sub [(0, _), (1, _), (5, _)] ⟨rfl, rfl, rfl, trivial⟩ ?_
   refine AW.seq ?_
   refine AW.seq (AW.reg hn hfx rfl ?_)
   refine .cons rfl (r_copy (.inr rfl) rfl rfl) <| .nil ?_
   refine AW.sub [(0, _), (1, _), (5, _), (6, _)] ⟨rfl, rfl, rfl, rfl, trivial⟩ ?_
   obtain ⟨z19, h1, h0⟩ := bindE h0
   refine AW.joinX z19 [] trivial (fun s18 => []) ?_ ?_
   ·refine AW.block ?_
    refine AW.loopP h1 [(0, _), (1, _)] ⟨rfl, rfl, trivial⟩ (fun s25 => [(5, .val ty74 1 s25.1), (6, .val tInt 0 s25.2)]) ⟨rfl, rfl, rfl, rfl, trivial⟩ fun s25 z30 h2 => ?_
    refine AW.seq ?_
    refine AW.seq (AW.reg hn hfx rfl ?_)
    refine .cons rfl (r_copy (.inl rfl) rfl rfl) <| .cons rfl (r_copy (.inl rfl) rfl rfl) <| .cons rfl (r_cmp rfl rfl rfl rfl rfl) <| .nil ?_
    refine AW.sub [(0, _), (1, _), (5, _), (6, _), (21, _)] ⟨rfl, rfl, rfl, rfl, rfl, trivial⟩ ?_
    refine AW.ifP rfl h2 (fun h2 => ?_) (fun h2 => ?_)
    ·refine AW.skip ?_
     refine AW.seq (AW.block ?_)
     refine AW.seq ?_
     refine AW.seq (AW.reg hn hfx rfl ?_)
     refine .cons rfl (r_alias rfl rfl) <| .cons rfl (r_copy (.inl rfl) rfl rfl) <| .cons rfl (r_copy (.inl rfl) rfl rfl) ?_
     obtain ⟨x26, hx26, h2⟩ := bindE h2
     refine .cons rfl (r_index_shared rfl rfl rfl ok38 (idx_nn hx26) (idx_get hx26)) ?_
     refine RT.sub [(0, _), (1, _), (5, _), (6, _), (24, _), (27, _)] ⟨rfl, rfl, rfl, rfl, rfl, rfl, trivial⟩ ?_
     refine .cons rfl (r_load_shared rfl rfl ok3) ?_
     obtain ⟨x27, hx27, h2⟩ := bindE h2
     refine .cons rfl (r_index_own rfl rfl rfl rfl rfl ok74 (idx_nn hx27) (idx_lt hx27)) <| .cons rfl (r_load rfl rfl rfl (sub_app rfl (sub_e (idx_get hx27))) ok4 rfl) <| .nil ?_
     refine AW.sub [(0, _), (1, _), (5, _), (6, _), (30, _)] ⟨rfl, rfl, rfl, rfl, rfl, trivial⟩ ?_
     refine AW.ifP rfl h2 (fun h2 => ?_) (fun h2 => ?_)
     ·refine AW.seq (AW.reg hn hfx rfl ?_)
      refine .cons rfl (r_copy (.inr rfl) rfl rfl) <| .nil ?_
      refine AW.sub [(4, _)] ⟨rfl, trivial⟩ ?_
      refine AW.ret ?_
      refine ⟨_, (Option.some.inj h2).symm, fun hz => ?_⟩
      subst hz
      obtain rfl := Option.some.inj h0
      exact ⟨_, .tmp rfl rfl .nil, .inl ⟨rfl, rfl⟩, .inl ⟨rfl, rfl⟩, trivial⟩
     ·refine AW.skip ?_
      refine AW.reg hn hfx rfl ?_
      refine .cons rfl (r_alias rfl rfl) <| .cons rfl (r_copy (.inl rfl) rfl rfl) <| .cons rfl (r_copy (.inl rfl) rfl rfl) ?_
      obtain ⟨x28, hx28, h2⟩ := bindE h2
      refine .cons rfl (r_index_shared rfl rfl rfl ok38 (idx_nn hx28) (idx_get hx28)) ?_
      refine RT.sub [(0, _), (1, _), (5, _), (6, _), (31, _), (34, _)] ⟨rfl, rfl, rfl, rfl, rfl, rfl, trivial⟩ ?_
      refine .cons rfl (r_load_shared rfl rfl ok3) ?_
      obtain ⟨x29, hx29, h2⟩ := bindE h2
      refine .cons rfl (r_index_own rfl rfl rfl rfl rfl ok74 (idx_nn hx29) (idx_lt hx29)) <| .cons rfl (r_store [] rfl rfl rfl rfl rfl rfl rfl (sub_app rfl (sub_e (idx_get hx29))) ok4 rfl rfl rfl (repl_app rfl (repl_e (idx_get hx29)) rfl)) <| .nil ?_
      refine AW.sub [(0, _), (1, _), (5, _), (6, _)] ⟨rfl, rfl, rfl, rfl, trivial⟩ ?_
      refine AW.reg hn hfx rfl ?_
      refine .cons rfl (r_copy (.inl rfl) rfl rfl) <| .cons rfl (r_arith rfl rfl rfl rfl rfl) <| .cons rfl (r_copy (.inr rfl) rfl rfl) <| .nil ?_
      exact ⟨_, (Option.some.inj h2).symm, ⟨rfl, rfl, rfl, rfl, trivial⟩⟩
    ·refine AW.exit ?_
     refine ⟨_, (Option.some.inj h2).symm, fun hz => ?_⟩
     subst hz
     exact ⟨_, rfl, trivial⟩
   ·rintro s18 rfl l1 hl1
    refine AW.weaken hl1.sub ?_
    refine AW.seq (AW.reg hn hfx rfl ?_)
    refine .cons rfl (r_copy (.inr rfl) rfl rfl) <| .nil ?_
    refine AW.sub [(4, _)] ⟨rfl, trivial⟩ ?_
    refine AW.ret ?_
    obtain rfl := Option.some.inj h0
    exact ⟨_, .tmp rfl rfl .nil, .inl ⟨rfl, rfl⟩, .inl ⟨rfl, rfl⟩, trivial⟩

theorem W27  {c_ : ((List Int) × (Int × (Int × Unit)))} {n : Int} {r : (Bool × ((List Int) × (Int × (Int × Unit))))} (h0 : spec_l1Cur_one c_ n = some r) : Meets Try.prog 27 [⟨(.ptr ty48), 1, c_⟩, ⟨tInt, 0, n⟩] [⟨.bool, 0, r.1⟩] [⟨(.ptr ty48), 1, r.2⟩, ⟨tInt, 0, n⟩] := by
 refine Meets.of_body (fn := Try.f27) Try.func27 rfl rfl rfl fun c hn hfx => ?_
 unfold spec_l1Cur_one at h0
 refine AW.seq (AW.reg hn hfx rfl ?_)
 refine .cons rfl (r_copy (.inr rfl) rfl rfl) <| .nil ?_
 refine AW.sub [(0, _), (1, _)] ⟨rfl, rfl, trivial⟩ ?_
 refine AW.seq (AW.reg hn hfx rfl ?_)
 refine .cons rfl (r_alias rfl rfl) <| .cons rfl (r_copy (.inl rfl) rfl rfl) ?_
 obtain ⟨x1, hx1, h0⟩ := bindE h0
 refine .cons rfl (r_callM [] rfl rfl rfl Try.func54 rfl rfl (fun us0 _ => (W54 hx1).toU (us0 ++ [])) (.io rfl (.lend rfl .nil)) rfl) <| .cons rfl (r_cmp rfl rfl rfl rfl rfl) ?_
 refine RT.sub [(0, _), (8, _)] ⟨rfl, rfl, trivial⟩ ?_
 refine .cons rfl (r_copy (.inr rfl) rfl rfl) <| .nil ?_
 refine AW.sub [(0, _), (4, _)] ⟨rfl, rfl, trivial⟩ ?_
 refine AW.ret ?_
 obtain rfl := Option.some.inj h0
 exact ⟨_, .tmp rfl rfl .nil, .inr ⟨nofun, rfl⟩, .inl ⟨rfl, rfl⟩, trivial⟩

theorem W58  {n : Int} {arity : Int} {at_ : Int} {r : (List Int)} (h0 : spec_l2Args n arity at_ = some r) : Meets Try.prog 58 [⟨tInt, 0, n⟩, ⟨tInt, 0, arity⟩, ⟨tInt, 0, at_⟩] [⟨ty38, 1, r⟩] [⟨tInt, 0, n⟩, ⟨tInt, 0, arity⟩, ⟨tInt, 0, at_⟩] := by
 refine Meets.of_body (fn := Try.f58) Try.func58 rfl rfl rfl fun c hn hfx => ?_
 unfold spec_l2Args at h0
 refine AW.seq (AW.reg hn hfx rfl ?_)
 refine .cons rfl (r_nilS (m := 1) (.inr rfl) ok38) <| .nil ?_
 refine AW.sub [(0, _), (1, _), (2, _)] ⟨rfl, rfl, rfl, trivial⟩ ?_
 refine AW.seq (AW.reg hn hfx rfl ?_)
 refine .cons rfl (r_copy (.inl rfl) rfl rfl) ?_
 obtain ⟨x1, hx1, h0⟩ := bindE h0
 refine .cons rfl (r_mkS rfl rfl rfl ok38 rfl hx1) <| .cons rfl (r_assign [] (.inl rfl) rfl rfl) <| .nil ?_
 refine AW.sub [(0, _), (1, _), (2, _), (7, _)] ⟨rfl, rfl, rfl, rfl, trivial⟩ ?_
 refine AW.seq ?_
 refine AW.seq (AW.reg hn hfx rfl ?_)
 refine .cons rfl (r_copy (.inl rfl) rfl rfl) <| .cons rfl (r_arith rfl rfl rfl rfl rfl) <| .cons rfl (r_copy (.inr rfl) rfl rfl) <| .nil ?_
 refine AW.sub [(0, _), (2, _), (7, _), (8, _)] ⟨rfl, rfl, rfl, rfl, trivial⟩ ?_
 obtain ⟨z12, h1, h0⟩ := bindE h0
 refine AW.joinJ [] trivial [(7, .val ty38 1 z12)] ?_ ?_
 ·refine AW.block ?_
  refine AW.loopP h1 [(0, _)] ⟨rfl, trivial⟩ (fun s17 => [(2, .val tInt 0 s17.1), (7, .val ty38 1 s17.2.1), (8, .val tInt 0 s17.2.2)]) ⟨rfl, rfl, rfl, rfl, trivial⟩ fun s17 z21 h2 => ?_
  refine AW.seq ?_
  refine AW.seq (AW.reg hn hfx rfl ?_)
  refine .cons rfl (r_copy (.inl rfl) rfl rfl) <| .cons rfl (r_cmp rfl rfl rfl rfl rfl) <| .nil ?_
  refine AW.sub [(0, _), (2, _), (7, _), (8, _), (14, _)] ⟨rfl, rfl, rfl, rfl, rfl, trivial⟩ ?_
  refine AW.ifP rfl h2 (fun h2 => ?_) (fun h2 => ?_)
  ·refine AW.skip ?_
   refine AW.seq (AW.block ?_)
   refine AW.seq (AW.reg hn hfx rfl ?_)
   refine .cons rfl (r_alias rfl rfl) <| .cons rfl (r_copy (.inl rfl) rfl rfl) <| .cons rfl (r_copy (.inl rfl) rfl rfl) <| .cons rfl (r_copy (.inl rfl) rfl rfl) ?_
   refine RT.sub [(0, _), (2, _), (7, _), (8, _), (17, _), (18, _), (19, _), (20, _)] ⟨rfl, rfl, rfl, rfl, rfl, rfl, rfl, rfl, trivial⟩ ?_
   obtain ⟨_, hx18, h2⟩ := bindE h2
   refine .cons rfl (r_rem rfl rfl rfl (needE hx18) rfl) ?_
   obtain ⟨x19, hx19, h2⟩ := bindE h2
   refine .cons rfl (r_index_own rfl rfl rfl rfl rfl ok38 (idx_nn hx19) (idx_lt hx19)) <| .cons rfl (r_store [] rfl rfl rfl rfl rfl rfl rfl (sub_app rfl (sub_e (idx_get hx19))) ok3 rfl rfl rfl (repl_app rfl (repl_e (idx_get hx19)) rfl)) <| .nil ?_
   refine AW.sub [(0, _), (2, _), (7, _), (8, _)] ⟨rfl, rfl, rfl, rfl, trivial⟩ ?_
   refine AW.reg hn hfx rfl ?_
   refine .cons rfl (r_copy (.inl rfl) rfl rfl) <| .cons rfl (r_copy (.inl rfl) rfl rfl) ?_
   obtain ⟨_, hx20, h2⟩ := bindE h2
   refine .cons rfl (r_quo rfl rfl rfl (needE hx20) rfl) <| .cons rfl (r_copy (.inr rfl) rfl rfl) <| .nil ?_
   refine AW.sub [(0, _), (2, _), (7, _), (8, _)] ⟨rfl, rfl, rfl, rfl, trivial⟩ ?_
   refine AW.reg hn hfx rfl ?_
   refine .cons rfl (r_copy (.inl rfl) rfl rfl) <| .cons rfl (r_arith rfl rfl rfl rfl rfl) <| .cons rfl (r_copy (.inr rfl) rfl rfl) <| .nil ?_
   exact ⟨_, (Option.some.inj h2).symm, ⟨rfl, rfl, rfl, rfl, trivial⟩⟩
  ·refine AW.exit ?_
   refine ⟨_, (Option.some.inj h2).symm, fun hz => ?_⟩
   subst hz
   exact ⟨rfl, trivial⟩
 ·intro l1 hl1
  refine AW.weaken hl1.sub ?_
  refine AW.seq (AW.reg hn hfx rfl ?_)
  refine .cons rfl (r_alias rfl rfl) <| .cons rfl (r_assign [26] (.inl rfl) rfl rfl) <| .nil ?_
  refine AW.sub [(6, _)] ⟨rfl, trivial⟩ ?_
  refine AW.ret ?_
  obtain rfl := Option.some.inj h0
  exact ⟨_, .tmp rfl rfl .nil, .inl ⟨rfl, rfl⟩, .inl ⟨rfl, rfl⟩, .inl ⟨rfl, rfl⟩, trivial⟩

theorem W28  {a : (Int × ((List (Int × ((List Int) × Unit))) × Unit))} {names : (List Int)} {r : (Int × ((List (Int × ((List Int) × Unit))) × Unit))} (h0 : spec_l2Rename a names = some r) : Meets Try.prog 28 [⟨ty26, 0, a⟩, ⟨ty38, 0, names⟩] [⟨ty26, 2, r⟩] [⟨ty26, 0, a⟩, ⟨ty38, 0, names⟩] := by
 refine Meets.of_body (fn := Try.f28) Try.func28 rfl rfl rfl fun c hn hfx => ?_
 unfold spec_l2Rename at h0
 refine AW.seq (AW.reg hn hfx rfl ?_)
 refine .cons rfl (r_box [] rfl rfl rfl) <| .cons rfl (r_alloc rfl ok26 rfl) <| .nil ?_
 refine AW.sub [(1, _), (2, _), (4, _)] ⟨rfl, rfl, rfl, trivial⟩ ?_
 refine AW.seq (AW.reg hn hfx rfl ?_)
 refine .cons rfl (r_field rfl rfl rfl rfl ok26 rfl rfl) <| .cons rfl (r_load rfl rfl rfl rfl ok3 rfl) <| .cons rfl (r_build [] rfl rfl rfl ok26 ⟨_, _, rfl⟩ rfl rfl (mc := 2)) <| .cons rfl (r_alloc rfl ok26 rfl) ?_
 refine RT.sub [(1, _), (2, _), (4, _), (5, _), (14, _)] ⟨rfl, rfl, rfl, rfl, rfl, trivial⟩ ?_
 refine .cons rfl (r_store [] rfl rfl rfl rfl rfl rfl rfl rfl ok26 rfl rfl rfl rfl) <| .nil ?_
 refine AW.sub [(1, _), (2, _), (4, _), (5, _)] ⟨rfl, rfl, rfl, rfl, trivial⟩ ?_
 refine AW.seq ?_
 refine AW.seq (AW.reg hn hfx rfl ?_)
 refine .cons rfl (r_copy (.inr rfl) rfl rfl) <| .nil ?_
 refine AW.sub [(1, _), (2, _), (4, _), (5, _), (6, _)] ⟨rfl, rfl, rfl, rfl, rfl, trivial⟩ ?_
 obtain ⟨z207, h1, h0⟩ := bindE h0
 refine AW.joinJ [(4, _)] ⟨rfl, trivial⟩ [(5, .val (.ptr ty26) 3 z207)] ?_ ?_
 ·refine AW.block ?_
  refine AW.loopP h1 [(1, _), (2, _), (4, _)] ⟨rfl, rfl, rfl, trivial⟩ (fun s310 => [(5, .val (.ptr ty26) 3 s310.1), (6, .val tInt 0 s310.2)]) ⟨rfl, rfl, rfl, rfl, rfl, trivial⟩ fun s310 z412 h2 => ?_
  refine AW.seq ?_
  refine AW.seq (AW.reg hn hfx rfl ?_)
  refine .cons rfl (r_copy (.inl rfl) rfl rfl) <| .cons rfl (r_field rfl rfl rfl rfl ok26 rfl rfl) <| .cons rfl (r_load rfl rfl rfl rfl ok24 rfl) <| .cons rfl (r_len rfl rfl ok24 rfl) ?_
  refine RT.sub [(1, _), (2, _), (4, _), (5, _), (6, _), (15, _), (18, _)] ⟨rfl, rfl, rfl, rfl, rfl, rfl, rfl, trivial⟩ ?_
  refine .cons rfl (r_cmp rfl rfl rfl rfl rfl) <| .nil ?_
  refine AW.sub [(1, _), (2, _), (4, _), (5, _), (6, _), (19, _)] ⟨rfl, rfl, rfl, rfl, rfl, rfl, trivial⟩ ?_
  refine AW.ifP rfl h2 (fun h2 => ?_) (fun h2 => ?_)
  ·refine AW.skip ?_
   refine AW.seq (AW.block ?_)
   refine AW.seq (AW.draw hmix hn hfx rfl rfl ?_)
   refine .cons rfl (r_field rfl rfl rfl rfl ok26 rfl rfl) rfl rfl rfl <| .cons rfl (r_load rfl rfl rfl rfl ok24 rfl) rfl rfl rfl <| .cons rfl (r_copy (.inl rfl) rfl rfl) rfl rfl rfl ?_
   obtain ⟨x311, hx311, h2⟩ := bindE h2
   refine .cons rfl (r_index_shared rfl rfl rfl ok24 (idx_nn hx311) (idx_get hx311)) rfl rfl rfl ?_
   refine DT.eq [(25, _), (24, _), (23, _), (22, _), (1, _), (2, _), (4, _), (5, _), (6, _), (19, _)] rfl ?_
   refine .cons rfl (r_field_shared rfl rfl ok72 rfl rfl rfl) rfl rfl rfl <| .cons rfl (r_load_shared rfl rfl ok3) rfl rfl rfl <| .cons rfl (r_field rfl rfl rfl rfl ok26 rfl rfl) rfl rfl rfl <| .cons rfl (r_load rfl rfl rfl rfl ok24 rfl) rfl rfl rfl ?_
   refine DT.eq [(29, _), (28, _), (27, _), (26, _), (25, _), (24, _), (23, _), (22, _), (1, _), (2, _), (4, _), (5, _), (6, _), (19, _)] rfl ?_
   refine .cons rfl (r_copy (.inl rfl) rfl rfl) rfl rfl rfl ?_
   obtain ⟨x312, hx312, h2⟩ := bindE h2
   refine .cons rfl (r_index_shared rfl rfl rfl ok24 (idx_nn hx312) (idx_get hx312)) rfl rfl rfl <| .cons rfl (r_field_shared rfl rfl ok72 rfl rfl rfl) rfl rfl rfl <| .cons rfl (r_load_shared rfl rfl ok38) rfl rfl rfl ?_
   refine DT.eq [(33, _), (32, _), (31, _), (30, _), (29, _), (28, _), (27, _), (26, _), (25, _), (24, _), (23, _), (22, _), (1, _), (2, _), (4, _), (5, _), (6, _), (19, _)] rfl ?_
   refine .cons rfl (r_len rfl rfl ok38 rfl) rfl rfl rfl ?_
   obtain ⟨x313, hx313, h2⟩ := bindE h2
   refine .cons rfl (r_mkS rfl rfl rfl ok38 rfl hx313) rfl rfl rfl <| .cons rfl (r_build [] rfl rfl rfl ok72 ⟨_, _, rfl⟩ rfl rfl (mc := 1)) rfl rfl rfl <| .cons rfl (r_alloc rfl ok72 rfl) rfl rfl rfl ?_
   refine DT.eq [(7, _), (36, _), (34, _), (33, _), (32, _), (31, _), (30, _), (29, _), (28, _), (27, _), (26, _), (25, _), (24, _), (23, _), (22, _), (1, _), (2, _), (4, _), (5, _), (6, _), (19, _)] rfl ?_
   refine .cons rfl (r_store [] rfl rfl rfl rfl rfl rfl rfl rfl ok72 rfl rfl rfl rfl) rfl rfl rfl <| .nil rfl ?_
   refine AW.sub [(1, _), (2, _), (4, _), (5, _), (6, _), (7, _)] ⟨rfl, rfl, rfl, rfl, rfl, rfl, trivial⟩ ?_
   refine AW.seq ?_
   refine AW.seq (AW.reg hn hfx rfl ?_)
   refine .cons rfl (r_copy (.inr rfl) rfl rfl) <| .nil ?_
   refine AW.sub [(1, _), (2, _), (4, _), (5, _), (6, _), (7, _), (8, _)] ⟨rfl, rfl, rfl, rfl, rfl, rfl, rfl, trivial⟩ ?_
   obtain ⟨z362, h3, h2⟩ := bindE h2
   refine AW.joinJ [(1, _), (2, _), (4, _), (5, _), (6, _)] ⟨rfl, rfl, rfl, rfl, rfl, trivial⟩ [(7, .val (.ptr ty72) 2 z362)] ?_ ?_
   ·refine AW.block ?_
    refine AW.loopP h3 [(1, _), (2, _), (4, _), (5, _), (6, _)] ⟨rfl, rfl, rfl, rfl, rfl, trivial⟩ (fun s386 => [(7, .val (.ptr ty72) 2 s386.1), (8, .val tInt 0 s386.2)]) ⟨rfl, rfl, rfl, rfl, rfl, rfl, rfl, trivial⟩ fun s386 z409 h4 => ?_
    refine AW.seq ?_
    refine AW.seq (AW.reg hn hfx rfl ?_)
    refine .cons rfl (r_copy (.inl rfl) rfl rfl) <| .cons rfl (r_field rfl rfl rfl rfl ok72 rfl rfl) <| .cons rfl (r_load_ref rfl rfl rfl rfl ok38) <| .cons rfl (r_len_own rfl rfl rfl rfl ok38 rfl) ?_
    refine RT.sub [(1, _), (2, _), (4, _), (5, _), (6, _), (7, _), (8, _), (37, _), (40, _)] ⟨rfl, rfl, rfl, rfl, rfl, rfl, rfl, rfl, rfl, trivial⟩ ?_
    refine .cons rfl (r_cmp rfl rfl rfl rfl rfl) <| .nil ?_
    refine AW.sub [(1, _), (2, _), (4, _), (5, _), (6, _), (7, _), (8, _), (41, _)] ⟨rfl, rfl, rfl, rfl, rfl, rfl, rfl, rfl, trivial⟩ ?_
    refine AW.ifP rfl h4 (fun h4 => ?_) (fun h4 => ?_)
    ·refine AW.skip ?_
     refine AW.seq (AW.block ?_)
     refine AW.seq (AW.reg hn hfx rfl ?_)
     refine .cons rfl (r_field rfl rfl rfl rfl ok26 rfl rfl) <| .cons rfl (r_load rfl rfl rfl rfl ok3 rfl) <| .cons rfl (r_field rfl rfl rfl rfl ok72 rfl rfl) <| .cons rfl (r_load rfl rfl rfl rfl ok3 rfl) ?_
     refine RT.sub [(1, _), (2, _), (4, _), (5, _), (6, _), (7, _), (8, _), (45, _), (47, _)] ⟨rfl, rfl, rfl, rfl, rfl, rfl, rfl, rfl, rfl, trivial⟩ ?_
     refine .cons rfl (r_copy (.inl rfl) rfl rfl) ?_
     obtain ⟨x387, hx387, h4⟩ := bindE h4
     refine .cons rfl (r_call rfl rfl rfl Try.func58 rfl rfl (W58 hx387) rfl) <| .cons rfl (r_assign [] (.inl rfl) rfl rfl) <| .nil ?_
     refine AW.sub [(1, _), (2, _), (4, _), (5, _), (6, _), (7, _), (8, _), (9, _)] ⟨rfl, rfl, rfl, rfl, rfl, rfl, rfl, rfl, trivial⟩ ?_
     refine AW.seq (AW.reg hn hfx rfl ?_)
     refine .cons rfl (r_copy (.inr rfl) rfl rfl) <| .nil ?_
     refine AW.sub [(1, _), (2, _), (4, _), (5, _), (6, _), (7, _), (8, _), (9, _), (10, _)] ⟨rfl, rfl, rfl, rfl, rfl, rfl, rfl, rfl, rfl, trivial⟩ ?_
     refine AW.seq ?_
     refine AW.seq (AW.reg hn hfx rfl ?_)
     refine .cons rfl (r_copy (.inr rfl) rfl rfl) <| .nil ?_
     refine AW.sub [(1, _), (2, _), (4, _), (5, _), (6, _), (7, _), (8, _), (9, _), (10, _), (11, _)] ⟨rfl, rfl, rfl, rfl, rfl, rfl, rfl, rfl, rfl, rfl, trivial⟩ ?_
     obtain ⟨z396, h5, h4⟩ := bindE h4
     refine AW.joinJ [(1, _), (2, _), (4, _), (5, _), (6, _), (7, _), (8, _)] ⟨rfl, rfl, rfl, rfl, rfl, rfl, rfl, trivial⟩ [(10, .val tInt 0 z396)] ?_ ?_
     ·refine AW.block ?_
      refine AW.loopP h5 [(1, _), (2, _), (4, _), (5, _), (6, _), (7, _), (8, _), (9, _)] ⟨rfl, rfl, rfl, rfl, rfl, rfl, rfl, rfl, trivial⟩ (fun s400 => [(10, .val tInt 0 s400.1), (11, .val tInt 0 s400.2)]) ⟨rfl, rfl, rfl, rfl, rfl, rfl, rfl, rfl, rfl, rfl, trivial⟩ fun s400 z403 h6 => ?_
      refine AW.seq ?_
      refine AW.seq (AW.reg hn hfx rfl ?_)
      refine .cons rfl (r_copy (.inl rfl) rfl rfl) <| .cons rfl (r_alias rfl rfl) <| .cons rfl (r_len_own rfl rfl rfl rfl ok38 rfl) <| .cons rfl (r_cmp rfl rfl rfl rfl rfl) <| .nil ?_
      refine AW.sub [(1, _), (2, _), (4, _), (5, _), (6, _), (7, _), (8, _), (9, _), (10, _), (11, _), (53, _)] ⟨rfl, rfl, rfl, rfl, rfl, rfl, rfl, rfl, rfl, rfl, rfl, trivial⟩ ?_
      refine AW.ifP rfl h6 (fun h6 => ?_) (fun h6 => ?_)
      ·refine AW.skip ?_
       refine AW.seq (AW.block ?_)
       refine AW.draw hmix hn hfx rfl rfl ?_
       refine .cons rfl (r_copy (.inl rfl) rfl rfl) rfl rfl rfl <| .cons rfl (r_field rfl rfl rfl rfl ok26 rfl rfl) rfl rfl rfl <| .cons rfl (r_load rfl rfl rfl rfl ok3 rfl) rfl rfl rfl <| .cons rfl (r_arith rfl rfl rfl rfl rfl) rfl rfl rfl ?_
       refine DT.eq [(59, _), (58, _), (57, _), (56, _), (1, _), (2, _), (4, _), (5, _), (6, _), (7, _), (8, _), (9, _), (10, _), (11, _), (53, _)] rfl ?_
       refine .cons rfl (r_copy (.inl rfl) rfl rfl) rfl rfl rfl <| .cons rfl (r_aliasF rfl) rfl rfl rfl <| .cons rfl (r_copy (.inl rfl) rfl rfl) rfl rfl rfl ?_
       obtain ⟨x401, hx401, h6⟩ := bindE h6
       refine .cons rfl (r_index_own rfl rfl rfl rfl rfl ok38 (idx_nn hx401) (idx_lt hx401)) rfl rfl rfl ?_
       refine DT.eq [(63, _), (62, _), (61, _), (60, _), (59, _), (58, _), (57, _), (56, _), (1, _), (2, _), (4, _), (5, _), (6, _), (7, _), (8, _), (9, _), (10, _), (11, _), (53, _)] rfl ?_
       refine .cons rfl (r_load rfl rfl rfl (sub_app rfl (sub_e (idx_get hx401))) ok3 rfl) rfl rfl rfl ?_
       obtain ⟨x402, hx402, h6⟩ := bindE h6
       refine .cons rfl (r_index_shared rfl rfl rfl ok38 (idx_nn hx402) (idx_get hx402)) rfl rfl rfl <| .cons rfl (r_load_shared rfl rfl ok3) rfl rfl rfl <| .cons rfl (r_arith rfl rfl rfl rfl rfl) rfl rfl rfl ?_
       refine DT.eq [(67, _), (66, _), (65, _), (64, _), (63, _), (62, _), (61, _), (60, _), (59, _), (58, _), (57, _), (56, _), (1, _), (2, _), (4, _), (5, _), (6, _), (7, _), (8, _), (9, _), (10, _), (11, _), (53, _)] rfl ?_
       refine .cons rfl (r_copy (.inr rfl) rfl rfl) rfl rfl rfl <| .nil rfl ?_
       refine AW.sub [(1, _), (2, _), (4, _), (5, _), (6, _), (7, _), (8, _), (9, _), (10, _), (11, _)] ⟨rfl, rfl, rfl, rfl, rfl, rfl, rfl, rfl, rfl, rfl, trivial⟩ ?_
       refine AW.reg hn hfx rfl ?_
       refine .cons rfl (r_copy (.inl rfl) rfl rfl) <| .cons rfl (r_arith rfl rfl rfl rfl rfl) <| .cons rfl (r_copy (.inr rfl) rfl rfl) <| .nil ?_
       exact ⟨_, (Option.some.inj h6).symm, ⟨rfl, rfl, rfl, rfl, rfl, rfl, rfl, rfl, rfl, rfl, trivial⟩⟩
      ·refine AW.exit ?_
       refine ⟨_, (Option.some.inj h6).symm, fun hz => ?_⟩
       subst hz
       exact ⟨rfl, rfl, rfl, rfl, rfl, rfl, rfl, rfl, trivial⟩
     ·intro l1 hl1
      refine AW.weaken hl1.sub ?_
      refine AW.draw hmix hn hfx rfl rfl ?_
      refine .cons rfl (r_field rfl rfl rfl rfl ok72 rfl rfl) rfl rfl rfl <| .cons rfl (r_load_ref rfl rfl rfl rfl ok38) rfl rfl rfl <| .cons rfl (r_copy (.inl rfl) rfl rfl) rfl rfl rfl <| .cons rfl (r_copy (.inl rfl) rfl rfl) rfl rfl rfl ?_
      refine DT.eq [(71, _), (70, _), (69, _), (68, _), (10, _), (1, _), (2, _), (4, _), (5, _), (6, _), (7, _), (8, _)] rfl ?_
      refine .cons rfl (r_field rfl rfl rfl rfl ok26 rfl rfl) rfl rfl rfl <| .cons rfl (r_load rfl rfl rfl rfl ok24 rfl) rfl rfl rfl <| .cons rfl (r_copy (.inl rfl) rfl rfl) rfl rfl rfl ?_
      obtain ⟨x405, hx405, h4⟩ := bindE h4
      refine .cons rfl (r_index_shared rfl rfl rfl ok24 (idx_nn hx405) (idx_get hx405)) rfl rfl rfl ?_
      refine DT.eq [(75, _), (74, _), (73, _), (72, _), (71, _), (70, _), (69, _), (68, _), (10, _), (1, _), (2, _), (4, _), (5, _), (6, _), (7, _), (8, _)] rfl ?_
      refine .cons rfl (r_field_shared rfl rfl ok72 rfl rfl rfl) rfl rfl rfl <| .cons rfl (r_load_shared rfl rfl ok38) rfl rfl rfl <| .cons rfl (r_copy (.inl rfl) rfl rfl) rfl rfl rfl ?_
      obtain ⟨x406, hx406, h4⟩ := bindE h4
      refine .cons rfl (r_index_shared rfl rfl rfl ok38 (idx_nn hx406) (idx_get hx406)) rfl rfl rfl ?_
      refine DT.eq [(79, _), (78, _), (77, _), (76, _), (75, _), (74, _), (73, _), (72, _), (71, _), (70, _), (69, _), (68, _), (10, _), (1, _), (2, _), (4, _), (5, _), (6, _), (7, _), (8, _)] rfl ?_
      refine .cons rfl (r_load_shared rfl rfl ok3) rfl rfl rfl ?_
      obtain ⟨x407, hx407, h4⟩ := bindE h4
      refine .cons rfl (r_index_shared rfl rfl rfl ok38 (idx_nn hx407) (idx_get hx407)) rfl rfl rfl <| .cons rfl (r_load_shared rfl rfl ok3) rfl rfl rfl ?_
      obtain ⟨x408, hx408, h4⟩ := bindE h4
      refine .cons rfl (r_index_own rfl rfl rfl rfl rfl ok38 (idx_nn hx408) (idx_lt hx408)) rfl rfl rfl ?_
      refine DT.eq [(83, _), (82, _), (81, _), (80, _), (79, _), (78, _), (77, _), (76, _), (75, _), (74, _), (73, _), (72, _), (71, _), (70, _), (69, _), (68, _), (10, _), (1, _), (2, _), (4, _), (5, _), (6, _), (7, _), (8, _)] rfl ?_
      refine .cons rfl (r_store [] rfl rfl rfl rfl rfl rfl rfl (sub_app rfl (sub_e (idx_get hx408))) ok3 rfl rfl rfl (repl_app rfl (repl_e (idx_get hx408)) rfl)) rfl rfl rfl <| .nil rfl ?_
      refine AW.sub [(1, _), (2, _), (4, _), (5, _), (6, _), (7, _), (8, _)] ⟨rfl, rfl, rfl, rfl, rfl, rfl, rfl, trivial⟩ ?_
      refine AW.reg hn hfx rfl ?_
      refine .cons rfl (r_copy (.inl rfl) rfl rfl) <| .cons rfl (r_arith rfl rfl rfl rfl rfl) <| .cons rfl (r_copy (.inr rfl) rfl rfl) <| .nil ?_
      exact ⟨_, (Option.some.inj h4).symm, ⟨rfl, rfl, rfl, rfl, rfl, rfl, rfl, trivial⟩⟩
    ·refine AW.exit ?_
     refine ⟨_, (Option.some.inj h4).symm, fun hz => ?_⟩
     subst hz
     exact ⟨rfl, rfl, rfl, rfl, rfl, rfl, trivial⟩
   ·intro l1 hl1
    refine AW.weaken hl1.sub ?_
    refine AW.reg hn hfx rfl ?_
    refine .cons rfl (r_field rfl rfl rfl rfl ok26 rfl rfl) <| .cons rfl (r_load_ref rfl rfl rfl rfl ok24) <| .cons rfl (r_load_ref rfl rfl rfl rfl ok72) <| .cons rfl (r_buildSlice [86] (e := ty72) (mc := 1) rfl rfl rfl ok24 rfl rfl rfl) ?_
    refine RT.sub [(1, _), (2, _), (4, _), (5, _), (6, _), (85, _), (87, _)] ⟨rfl, rfl, rfl, rfl, rfl, rfl, rfl, trivial⟩ ?_
    obtain ⟨x411, hx411, h2⟩ := bindE h2
    refine .cons rfl (r_append [] rfl rfl rfl ok24 rfl (mr := 1) rfl rfl (app_len hx411) (app_eq hx411)) <| .cons rfl (r_field rfl rfl rfl rfl ok26h0 rfl rfl) <| .cons rfl (r_store [] rfl rfl rfl rfl rfl rfl rfl rfl ok24 rfl rfl rfl rfl) <| .nil ?_
    refine AW.sub [(1, _), (2, _), (4, _), (5, _), (6, _)] ⟨rfl, rfl, rfl, rfl, rfl, trivial⟩ ?_
    refine AW.reg hn hfx rfl ?_
    refine .cons rfl (r_copy (.inl rfl) rfl rfl) <| .cons rfl (r_arith rfl rfl rfl rfl rfl) <| .cons rfl (r_copy (.inr rfl) rfl rfl) <| .nil ?_
    exact ⟨_, (Option.some.inj h2).symm, ⟨rfl, rfl, rfl, rfl, rfl, trivial⟩⟩
  ·refine AW.exit ?_
   refine ⟨_, (Option.some.inj h2).symm, fun hz => ?_⟩
   subst hz
   exact ⟨rfl, rfl, trivial⟩
 ·intro l1 hl1
  refine AW.weaken hl1.sub ?_
  refine AW.seq (AW.reg hn hfx rfl ?_)
  refine .cons rfl (r_load_ref rfl rfl rfl rfl ok26) <| .cons rfl (r_store [90] rfl rfl rfl rfl rfl rfl rfl rfl ok26 rfl rfl rfl rfl) <| .nil ?_
  refine AW.sub [(4, _)] ⟨rfl, trivial⟩ ?_
  refine AW.ret ?_
  obtain rfl := Option.some.inj h0
  exact ⟨_, .cell rfl ok26 .nil, .inl ⟨rfl, rfl⟩, .inl ⟨rfl, rfl⟩, trivial⟩

end Go.Proofs.Ytoaajjhcdbbfdaa
namespace Go.Proofs.Ytoaajjhcdbbfdaa
open Go.Abs Go.Pure
-- theorem hmix : Try.prog.follows .mixedOrders = true := by kernel_rfl
theorem W82  {s : List UInt8} {r : (Int × ((List Int) × Unit))} (h0 : spec_l2Binary s = some r) : Meets Try.prog 82 [⟨.str, 0, s⟩] [⟨ty72, 1, r⟩] [⟨.str, 0, s⟩] := by
 refine Meets.of_body (fn := Try.f82) Try.func82 rfl rfl rfl fun c hn hfx => ?_
 unfold spec_l2Binary at h0
 refine AW.seq (AW.reg hn hfx rfl ?_)
 refine .cons rfl (r_alloc rfl ok72 rfl) <| .nil ?_
 refine AW.sub [(0, _), (2, _)] ⟨rfl, rfl, trivial⟩ ?_
 refine AW.seq (AW.reg hn hfx rfl ?_)
 refine .cons rfl (r_build [] rfl rfl rfl ok72 ⟨_, _, rfl⟩ rfl rfl (mc := 1)) <| .cons rfl (r_alloc rfl ok72 rfl) <| .cons rfl (r_store [] rfl rfl rfl rfl rfl rfl rfl rfl ok72 rfl rfl rfl rfl) <| .nil ?_
 refine AW.sub [(0, _), (2, _), (3, _)] ⟨rfl, rfl, rfl, trivial⟩ ?_
 refine AW.seq ?_
 refine AW.seq (AW.reg hn hfx rfl ?_)
 refine .cons rfl (r_copy (.inr rfl) rfl rfl) <| .nil ?_
 refine AW.sub [(0, _), (2, _), (3, _), (4, _)] ⟨rfl, rfl, rfl, rfl, trivial⟩ ?_
 obtain ⟨z9, h1, h0⟩ := bindE h0
 refine AW.joinJ [(2, _)] ⟨rfl, trivial⟩ [(3, .val (.ptr ty72) 2 z9)] ?_ ?_
 ·refine AW.block ?_
  refine AW.loopP h1 [(0, _), (2, _)] ⟨rfl, rfl, trivial⟩ (fun s13 => [(3, .val (.ptr ty72) 2 s13.1), (4, .val tInt 0 s13.2)]) ⟨rfl, rfl, rfl, rfl, trivial⟩ fun s13 z16 h2 => ?_
  refine AW.seq ?_
  refine AW.seq (AW.reg hn hfx rfl ?_)
  refine .cons rfl (r_copy (.inl rfl) rfl rfl) <| .cons rfl (r_copy (.inl rfl) rfl rfl) <| .cons rfl (r_len_str rfl rfl ok9 rfl) <| .cons rfl (r_cmp rfl rfl rfl rfl rfl) <| .nil ?_
  refine AW.sub [(0, _), (2, _), (3, _), (4, _), (9, _)] ⟨rfl, rfl, rfl, rfl, rfl, trivial⟩ ?_
  refine AW.ifP rfl h2 (fun h2 => ?_) (fun h2 => ?_)
  ·refine AW.skip ?_
   refine AW.seq (AW.block ?_)
   refine AW.draw hmix hn hfx rfl rfl ?_
   refine .cons rfl (r_field rfl rfl rfl rfl ok72 rfl rfl) rfl rfl rfl <| .cons rfl (r_load_ref rfl rfl rfl rfl ok38) rfl rfl rfl <| .cons rfl (r_copy (.inl rfl) rfl rfl) rfl rfl rfl <| .cons rfl (r_copy (.inl rfl) rfl rfl) rfl rfl rfl ?_
   refine DT.eq [(15, _), (14, _), (13, _), (12, _), (0, _), (2, _), (3, _), (4, _), (9, _)] rfl ?_
   obtain ⟨x14, hx14, h2⟩ := bindE h2
   refine .cons rfl (r_index_str rfl rfl rfl ok9 (idx_nn hx14) (idx_get hx14) rfl) rfl rfl rfl <| .cons rfl (r_arith rfl rfl rfl rfl rfl) rfl rfl rfl <| .cons rfl (r_conv rfl rfl ok5 ok3 rfl) rfl rfl rfl <| .cons rfl (r_buildSlice [] (e := tInt) (mc := 0) rfl rfl rfl ok38 rfl rfl rfl) rfl rfl rfl ?_
   refine DT.eq [(19, _), (18, _), (17, _), (16, _), (15, _), (14, _), (13, _), (12, _), (0, _), (2, _), (3, _), (4, _), (9, _)] rfl ?_
   obtain ⟨x15, hx15, h2⟩ := bindE h2
   refine .cons rfl (r_append [] rfl rfl rfl ok38 rfl (mr := 0) rfl rfl (app_len hx15) (app_eq hx15)) rfl rfl rfl <| .cons rfl (r_field rfl rfl rfl rfl ok72h0 rfl rfl) rfl rfl rfl <| .cons rfl (r_store [] rfl rfl rfl rfl rfl rfl rfl rfl ok38 rfl rfl rfl rfl) rfl rfl rfl <| .nil rfl ?_
   refine AW.sub [(0, _), (2, _), (3, _), (4, _)] ⟨rfl, rfl, rfl, rfl, trivial⟩ ?_
   refine AW.reg hn hfx rfl ?_
   refine .cons rfl (r_copy (.inl rfl) rfl rfl) <| .cons rfl (r_arith rfl rfl rfl rfl rfl) <| .cons rfl (r_copy (.inr rfl) rfl rfl) <| .nil ?_
   exact ⟨_, (Option.some.inj h2).symm, ⟨rfl, rfl, rfl, rfl, trivial⟩⟩
  ·refine AW.exit ?_
   refine ⟨_, (Option.some.inj h2).symm, fun hz => ?_⟩
   subst hz
   exact ⟨rfl, rfl, trivial⟩
 ·intro l1 hl1
  refine AW.weaken hl1.sub ?_
  refine AW.seq (AW.reg hn hfx rfl ?_)
  refine .cons rfl (r_load_ref rfl rfl rfl rfl ok72) <| .cons rfl (r_store [22] rfl rfl rfl rfl rfl rfl rfl rfl ok72 rfl rfl rfl rfl) <| .nil ?_
  refine AW.sub [(2, _)] ⟨rfl, trivial⟩ ?_
  refine AW.ret ?_
  obtain rfl := Option.some.inj h0
  exact ⟨_, .cell rfl ok72 .nil, .inl ⟨rfl, rfl⟩, trivial⟩

theorem W83  {n : Int} {r : (Int × ((List Int) × Unit))} (h0 : spec_l2Affine n = some r) : Meets Try.prog 83 [⟨tInt, 0, n⟩] [⟨ty72, 1, r⟩] [⟨tInt, 0, n⟩] := by
 refine Meets.of_body (fn := Try.f83) Try.func83 rfl rfl rfl fun c hn hfx => ?_
 unfold spec_l2Affine at h0
 refine AW.seq (AW.reg hn hfx rfl ?_)
 refine .cons rfl (r_alloc rfl ok72 rfl) <| .nil ?_
 refine AW.sub [(0, _), (2, _)] ⟨rfl, rfl, trivial⟩ ?_
 refine AW.seq (AW.reg hn hfx rfl ?_)
 refine .cons rfl (r_build [] rfl rfl rfl ok72 ⟨_, _, rfl⟩ rfl rfl (mc := 1)) <| .cons rfl (r_alloc rfl ok72 rfl) <| .cons rfl (r_store [] rfl rfl rfl rfl rfl rfl rfl rfl ok72 rfl rfl rfl rfl) <| .nil ?_
 refine AW.sub [(0, _), (2, _), (3, _)] ⟨rfl, rfl, rfl, trivial⟩ ?_
 refine AW.seq ?_
 refine AW.seq (AW.reg hn hfx rfl ?_)
 refine .cons rfl (r_copy (.inr rfl) rfl rfl) <| .nil ?_
 refine AW.sub [(0, _), (2, _), (3, _), (4, _)] ⟨rfl, rfl, rfl, rfl, trivial⟩ ?_
 obtain ⟨z17, h1, h0⟩ := bindE h0
 refine AW.joinJ [(2, _)] ⟨rfl, trivial⟩ [(3, .val (.ptr ty72) 2 z17)] ?_ ?_
 ·refine AW.block ?_
  refine AW.loopP h1 [(0, _), (2, _)] ⟨rfl, rfl, trivial⟩ (fun s25 => [(3, .val (.ptr ty72) 2 s25.1), (4, .val tInt 0 s25.2)]) ⟨rfl, rfl, rfl, rfl, trivial⟩ fun s25 z32 h2 => ?_
  refine AW.seq ?_
  refine AW.seq (AW.reg hn hfx rfl ?_)
  refine .cons rfl (r_copy (.inl rfl) rfl rfl) <| .cons rfl (r_copy (.inl rfl) rfl rfl) <| .cons rfl (r_copy (.inl rfl) rfl rfl) <| .cons rfl (r_arith rfl rfl rfl rfl rfl) ?_
  refine RT.sub [(0, _), (2, _), (3, _), (4, _), (6, _), (9, _)] ⟨rfl, rfl, rfl, rfl, rfl, rfl, trivial⟩ ?_
  refine .cons rfl (r_copy (.inl rfl) rfl rfl) <| .cons rfl (r_arith rfl rfl rfl rfl rfl) <| .cons rfl (r_cmp rfl rfl rfl rfl rfl) <| .nil ?_
  refine AW.sub [(0, _), (2, _), (3, _), (4, _), (12, _)] ⟨rfl, rfl, rfl, rfl, rfl, trivial⟩ ?_
  refine AW.ifP rfl h2 (fun h2 => ?_) (fun h2 => ?_)
  ·refine AW.skip ?_
   refine AW.seq (AW.block ?_)
   refine AW.draw hmix hn hfx rfl rfl ?_
   refine .cons rfl (r_field rfl rfl rfl rfl ok72 rfl rfl) rfl rfl rfl <| .cons rfl (r_load_ref rfl rfl rfl rfl ok38) rfl rfl rfl <| .cons rfl (r_copy (.inl rfl) rfl rfl) rfl rfl rfl <| .cons rfl (r_copy (.inl rfl) rfl rfl) rfl rfl rfl ?_
   refine DT.eq [(18, _), (17, _), (16, _), (15, _), (0, _), (2, _), (3, _), (4, _), (12, _)] rfl ?_
   refine .cons rfl (r_copy (.inl rfl) rfl rfl) rfl rfl rfl <| .cons rfl (r_arith rfl rfl rfl rfl rfl) rfl rfl rfl ?_
   obtain ⟨_, hx26, h2⟩ := bindE h2
   refine .cons rfl (r_quo rfl rfl rfl (needE hx26) rfl) rfl rfl rfl <| .cons rfl (r_copy (.inl rfl) rfl rfl) rfl rfl rfl ?_
   refine DT.eq [(22, _), (21, _), (20, _), (19, _), (18, _), (17, _), (16, _), (15, _), (0, _), (2, _), (3, _), (4, _), (12, _)] rfl ?_
   refine .cons rfl (r_arith rfl rfl rfl rfl rfl) rfl rfl rfl <| .cons rfl (r_copy (.inl rfl) rfl rfl) rfl rfl rfl <| .cons rfl (r_copy (.inl rfl) rfl rfl) rfl rfl rfl ?_
   obtain ⟨_, hx27, h2⟩ := bindE h2
   refine .cons rfl (r_quo rfl rfl rfl (needE hx27) rfl) rfl rfl rfl ?_
   refine DT.eq [(26, _), (25, _), (24, _), (23, _), (22, _), (21, _), (20, _), (19, _), (18, _), (17, _), (16, _), (15, _), (0, _), (2, _), (3, _), (4, _), (12, _)] rfl ?_
   refine .cons rfl (r_copy (.inl rfl) rfl rfl) rfl rfl rfl ?_
   obtain ⟨_, hx28, h2⟩ := bindE h2
   refine .cons rfl (r_rem rfl rfl rfl (needE hx28) rfl) rfl rfl rfl <| .cons rfl (r_arith rfl rfl rfl rfl rfl) rfl rfl rfl <| .cons rfl (r_copy (.inl rfl) rfl rfl) rfl rfl rfl ?_
   refine DT.eq [(30, _), (29, _), (28, _), (27, _), (26, _), (25, _), (24, _), (23, _), (22, _), (21, _), (20, _), (19, _), (18, _), (17, _), (16, _), (15, _), (0, _), (2, _), (3, _), (4, _), (12, _)] rfl ?_
   refine .cons rfl (r_copy (.inl rfl) rfl rfl) rfl rfl rfl ?_
   obtain ⟨_, hx29, h2⟩ := bindE h2
   refine .cons rfl (r_rem rfl rfl rfl (needE hx29) rfl) rfl rfl rfl <| .cons rfl (r_arith rfl rfl rfl rfl rfl) rfl rfl rfl <| .cons rfl (r_copy (.inl rfl) rfl rfl) rfl rfl rfl ?_
   refine DT.eq [(34, _), (33, _), (32, _), (31, _), (30, _), (29, _), (28, _), (27, _), (26, _), (25, _), (24, _), (23, _), (22, _), (21, _), (20, _), (19, _), (18, _), (17, _), (16, _), (15, _), (0, _), (2, _), (3, _), (4, _), (12, _)] rfl ?_
   obtain ⟨_, hx30, h2⟩ := bindE h2
   refine .cons rfl (r_rem rfl rfl rfl (needE hx30) rfl) rfl rfl rfl <| .cons rfl (r_buildSlice [] (e := tInt) (mc := 0) rfl rfl rfl ok38 rfl rfl rfl) rfl rfl rfl ?_
   obtain ⟨x31, hx31, h2⟩ := bindE h2
   refine .cons rfl (r_append [] rfl rfl rfl ok38 rfl (mr := 0) rfl rfl (app_len hx31) (app_eq hx31)) rfl rfl rfl <| .cons rfl (r_field rfl rfl rfl rfl ok72h0 rfl rfl) rfl rfl rfl ?_
   refine DT.eq [(38, _), (37, _), (3, _), (35, _), (34, _), (33, _), (32, _), (31, _), (30, _), (29, _), (28, _), (27, _), (26, _), (25, _), (24, _), (23, _), (22, _), (21, _), (20, _), (19, _), (18, _), (17, _), (0, _), (2, _), (4, _), (12, _)] rfl ?_
   refine .cons rfl (r_store [] rfl rfl rfl rfl rfl rfl rfl rfl ok38 rfl rfl rfl rfl) rfl rfl rfl <| .nil rfl ?_
   refine AW.sub [(0, _), (2, _), (3, _), (4, _)] ⟨rfl, rfl, rfl, rfl, trivial⟩ ?_
   refine AW.reg hn hfx rfl ?_
   refine .cons rfl (r_copy (.inl rfl) rfl rfl) <| .cons rfl (r_arith rfl rfl rfl rfl rfl) <| .cons rfl (r_copy (.inr rfl) rfl rfl) <| .nil ?_
   exact ⟨_, (Option.some.inj h2).symm, ⟨rfl, rfl, rfl, rfl, trivial⟩⟩
  ·refine AW.exit ?_
   refine ⟨_, (Option.some.inj h2).symm, fun hz => ?_⟩
   subst hz
   exact ⟨rfl, rfl, trivial⟩
 ·intro l1 hl1
  refine AW.weaken hl1.sub ?_
  refine AW.seq (AW.reg hn hfx rfl ?_)
  refine .cons rfl (r_load_ref rfl rfl rfl rfl ok72) <| .cons rfl (r_store [39] rfl rfl rfl rfl rfl rfl rfl rfl ok72 rfl rfl rfl rfl) <| .nil ?_
  refine AW.sub [(2, _)] ⟨rfl, trivial⟩ ?_
  refine AW.ret ?_
  obtain rfl := Option.some.inj h0
  exact ⟨_, .cell rfl ok72 .nil, .inl ⟨rfl, rfl⟩, trivial⟩

theorem W52  {k : Int} {r : (Int × ((List (Int × ((List Int) × Unit))) × Unit))} (h0 : spec_l2Known k = some r) : Meets Try.prog 52 [⟨tInt, 0, k⟩] [⟨ty26, 2, r⟩] [⟨tInt, 0, k⟩] := by
 refine Meets.of_body (fn := Try.f52) Try.func52 rfl rfl rfl fun c hn hfx => ?_
 unfold spec_l2Known at h0
 refine AW.seq (AW.reg hn hfx rfl ?_)
 refine .cons rfl (r_alloc rfl ok26 rfl) <| .nil ?_
 refine AW.sub [(0, _), (2, _)] ⟨rfl, rfl, trivial⟩ ?_
 refine AW.seq ?_
 refine AW.seq (AW.reg hn hfx rfl ?_)
 refine .cons rfl (r_copy (.inl rfl) rfl rfl) <| .nil ?_
 refine AW.sub [(2, _), (3, _)] ⟨rfl, rfl, trivial⟩ ?_
 refine AW.block ?_
 refine AW.seq (AW.reg hn hfx rfl ?_)
 refine .cons rfl (r_cmp rfl rfl rfl rfl rfl) <| .cons rfl (r_copy (.inr rfl) rfl rfl) <| .nil ?_
 refine AW.sub [(2, _), (3, _), (4, _)] ⟨rfl, rfl, rfl, trivial⟩ ?_
 refine AW.ifP rfl h0 (fun h0 => ?_) (fun h0 => ?_)
 ·refine AW.seq (AW.reg hn hfx rfl ?_)
  obtain ⟨x1, hx1, h0⟩ := bindE h0
  refine .cons rfl (r_call rfl rfl rfl Try.func82 rfl rfl (W82 hx1) rfl) <| .cons rfl (r_buildSlice [] (e := ty72) (mc := 1) rfl rfl rfl ok24 rfl rfl rfl) <| .cons rfl (r_build [] rfl rfl rfl ok26 ⟨_, _, rfl⟩ rfl rfl (mc := 2)) <| .cons rfl (r_store [] rfl rfl rfl rfl rfl rfl rfl rfl ok26 rfl rfl rfl rfl) <| .nil ?_
  refine AW.sub [(2, _)] ⟨rfl, trivial⟩ ?_
  refine AW.ret ?_
  obtain rfl := Option.some.inj h0
  exact ⟨_, .cell rfl ok26 .nil, .inl ⟨rfl, rfl⟩, trivial⟩
 ·refine AW.seq (AW.reg hn hfx rfl ?_)
  refine .cons rfl (r_cmp rfl rfl rfl rfl rfl) <| .cons rfl (r_copy (.inr rfl) rfl rfl) <| .nil ?_
  refine AW.sub [(2, _), (3, _), (9, _)] ⟨rfl, rfl, rfl, trivial⟩ ?_
  refine AW.ifP rfl h0 (fun h0 => ?_) (fun h0 => ?_)
  ·refine AW.seq (AW.reg hn hfx rfl ?_)
   obtain ⟨x2, hx2, h0⟩ := bindE h0
   refine .cons rfl (r_call rfl rfl rfl Try.func82 rfl rfl (W82 hx2) rfl) ?_
   obtain ⟨x3, hx3, h0⟩ := bindE h0
   refine .cons rfl (r_call rfl rfl rfl Try.func82 rfl rfl (W82 hx3) rfl) <| .cons rfl (r_buildSlice [] (e := ty72) (mc := 1) rfl rfl rfl ok24 rfl rfl rfl) <| .cons rfl (r_build [] rfl rfl rfl ok26 ⟨_, _, rfl⟩ rfl rfl (mc := 2)) ?_
   refine RT.sub [(2, _), (14, _)] ⟨rfl, rfl, trivial⟩ ?_
   refine .cons rfl (r_store [] rfl rfl rfl rfl rfl rfl rfl rfl ok26 rfl rfl rfl rfl) <| .nil ?_
   refine AW.sub [(2, _)] ⟨rfl, trivial⟩ ?_
   refine AW.ret ?_
   obtain rfl := Option.some.inj h0
   exact ⟨_, .cell rfl ok26 .nil, .inl ⟨rfl, rfl⟩, trivial⟩
  ·refine AW.seq (AW.reg hn hfx rfl ?_)
   refine .cons rfl (r_cmp rfl rfl rfl rfl rfl) <| .cons rfl (r_copy (.inr rfl) rfl rfl) <| .nil ?_
   refine AW.sub [(2, _), (3, _), (15, _)] ⟨rfl, rfl, rfl, trivial⟩ ?_
   refine AW.ifP rfl h0 (fun h0 => ?_) (fun h0 => ?_)
   ·refine AW.seq (AW.reg hn hfx rfl ?_)
    obtain ⟨x4, hx4, h0⟩ := bindE h0
    refine .cons rfl (r_call rfl rfl rfl Try.func82 rfl rfl (W82 hx4) rfl) ?_
    obtain ⟨x5, hx5, h0⟩ := bindE h0
    refine .cons rfl (r_call rfl rfl rfl Try.func82 rfl rfl (W82 hx5) rfl) <| .cons rfl (r_buildSlice [] (e := tInt) (mc := 0) rfl rfl rfl ok38 rfl rfl rfl) <| .cons rfl (r_build [] rfl rfl rfl ok72 ⟨_, _, rfl⟩ rfl rfl (mc := 1)) ?_
    refine RT.sub [(2, _), (17, _), (18, _), (20, _)] ⟨rfl, rfl, rfl, rfl, trivial⟩ ?_
    refine .cons rfl (r_buildSlice [] (e := ty72) (mc := 1) rfl rfl rfl ok24 rfl rfl rfl) <| .cons rfl (r_build [] rfl rfl rfl ok26 ⟨_, _, rfl⟩ rfl rfl (mc := 2)) <| .cons rfl (r_store [] rfl rfl rfl rfl rfl rfl rfl rfl ok26 rfl rfl rfl rfl) <| .nil ?_
    refine AW.sub [(2, _)] ⟨rfl, trivial⟩ ?_
    refine AW.ret ?_
    obtain rfl := Option.some.inj h0
    exact ⟨_, .cell rfl ok26 .nil, .inl ⟨rfl, rfl⟩, trivial⟩
   ·refine AW.seq (AW.reg hn hfx rfl ?_)
    refine .cons rfl (r_cmp rfl rfl rfl rfl rfl) <| .cons rfl (r_copy (.inr rfl) rfl rfl) <| .nil ?_
    refine AW.sub [(2, _), (3, _), (23, _)] ⟨rfl, rfl, rfl, trivial⟩ ?_
    refine AW.ifP rfl h0 (fun h0 => ?_) (fun h0 => ?_)
    ·refine AW.seq (AW.reg hn hfx rfl ?_)
     obtain ⟨x6, hx6, h0⟩ := bindE h0
     refine .cons rfl (r_call rfl rfl rfl Try.func83 rfl rfl (W83 hx6) rfl) <| .cons rfl (r_buildSlice [] (e := ty72) (mc := 1) rfl rfl rfl ok24 rfl rfl rfl) <| .cons rfl (r_build [] rfl rfl rfl ok26 ⟨_, _, rfl⟩ rfl rfl (mc := 2)) <| .cons rfl (r_store [] rfl rfl rfl rfl rfl rfl rfl rfl ok26 rfl rfl rfl rfl) <| .nil ?_
     refine AW.sub [(2, _)] ⟨rfl, trivial⟩ ?_
     refine AW.ret ?_
     obtain rfl := Option.some.inj h0
     exact ⟨_, .cell rfl ok26 .nil, .inl ⟨rfl, rfl⟩, trivial⟩
    ·refine AW.seq (AW.reg hn hfx rfl ?_)
     refine .cons rfl (r_cmp rfl rfl rfl rfl rfl) <| .cons rfl (r_copy (.inr rfl) rfl rfl) <| .nil ?_
     refine AW.sub [(2, _), (3, _), (28, _)] ⟨rfl, rfl, rfl, trivial⟩ ?_
     refine AW.ifP rfl h0 (fun h0 => ?_) (fun h0 => ?_)
     ·refine AW.seq (AW.reg hn hfx rfl ?_)
      obtain ⟨x7, hx7, h0⟩ := bindE h0
      refine .cons rfl (r_call rfl rfl rfl Try.func82 rfl rfl (W82 hx7) rfl) <| .cons rfl (r_buildSlice [] (e := ty72) (mc := 1) rfl rfl rfl ok24 rfl rfl rfl) <| .cons rfl (r_build [] rfl rfl rfl ok26 ⟨_, _, rfl⟩ rfl rfl (mc := 2)) <| .cons rfl (r_store [] rfl rfl rfl rfl rfl rfl rfl rfl ok26 rfl rfl rfl rfl) <| .nil ?_
      refine AW.sub [(2, _)] ⟨rfl, trivial⟩ ?_
      refine AW.ret ?_
      obtain rfl := Option.some.inj h0
      exact ⟨_, .cell rfl ok26 .nil, .inl ⟨rfl, rfl⟩, trivial⟩
     ·refine AW.seq (AW.reg hn hfx rfl ?_)
      refine .cons rfl (r_cmp rfl rfl rfl rfl rfl) <| .cons rfl (r_copy (.inr rfl) rfl rfl) <| .nil ?_
      refine AW.sub [(2, _), (3, _), (33, _)] ⟨rfl, rfl, rfl, trivial⟩ ?_
      refine AW.ifP rfl h0 (fun h0 => ?_) (fun h0 => ?_)
      ·refine AW.seq (AW.reg hn hfx rfl ?_)
       obtain ⟨x8, hx8, h0⟩ := bindE h0
       refine .cons rfl (r_call rfl rfl rfl Try.func82 rfl rfl (W82 hx8) rfl) <| .cons rfl (r_buildSlice [] (e := ty72) (mc := 1) rfl rfl rfl ok24 rfl rfl rfl) <| .cons rfl (r_build [] rfl rfl rfl ok26 ⟨_, _, rfl⟩ rfl rfl (mc := 2)) <| .cons rfl (r_store [] rfl rfl rfl rfl rfl rfl rfl rfl ok26 rfl rfl rfl rfl) <| .nil ?_
       refine AW.sub [(2, _)] ⟨rfl, trivial⟩ ?_
       refine AW.ret ?_
       obtain rfl := Option.some.inj h0
       exact ⟨_, .cell rfl ok26 .nil, .inl ⟨rfl, rfl⟩, trivial⟩
      ·refine AW.seq (AW.reg hn hfx rfl ?_)
       refine .cons rfl (r_cmp rfl rfl rfl rfl rfl) <| .cons rfl (r_copy (.inr rfl) rfl rfl) <| .nil ?_
       refine AW.sub [(2, _), (3, _), (38, _)] ⟨rfl, rfl, rfl, trivial⟩ ?_
       refine AW.ifP rfl h0 (fun h0 => ?_) (fun h0 => ?_)
       ·refine AW.seq (AW.reg hn hfx rfl ?_)
        obtain ⟨x9, hx9, h0⟩ := bindE h0
        refine .cons rfl (r_call rfl rfl rfl Try.func82 rfl rfl (W82 hx9) rfl) <| .cons rfl (r_buildSlice [] (e := ty72) (mc := 1) rfl rfl rfl ok24 rfl rfl rfl) <| .cons rfl (r_build [] rfl rfl rfl ok26 ⟨_, _, rfl⟩ rfl rfl (mc := 2)) <| .cons rfl (r_store [] rfl rfl rfl rfl rfl rfl rfl rfl ok26 rfl rfl rfl rfl) <| .nil ?_
        refine AW.sub [(2, _)] ⟨rfl, trivial⟩ ?_
        refine AW.ret ?_
        obtain rfl := Option.some.inj h0
        exact ⟨_, .cell rfl ok26 .nil, .inl ⟨rfl, rfl⟩, trivial⟩
       ·refine AW.seq (AW.reg hn hfx rfl ?_)
        refine .cons rfl (r_cmp rfl rfl rfl rfl rfl) <| .cons rfl (r_copy (.inr rfl) rfl rfl) <| .nil ?_
        refine AW.sub [(2, _), (3, _), (43, _)] ⟨rfl, rfl, rfl, trivial⟩ ?_
        refine AW.ifP rfl h0 (fun h0 => ?_) (fun h0 => ?_)
        ·refine AW.seq (AW.reg hn hfx rfl ?_)
         obtain ⟨x10, hx10, h0⟩ := bindE h0
         refine .cons rfl (r_call rfl rfl rfl Try.func82 rfl rfl (W82 hx10) rfl) ?_
         obtain ⟨x11, hx11, h0⟩ := bindE h0
         refine .cons rfl (r_call rfl rfl rfl Try.func82 rfl rfl (W82 hx11) rfl) <| .cons rfl (r_buildSlice [] (e := ty72) (mc := 1) rfl rfl rfl ok24 rfl rfl rfl) <| .cons rfl (r_build [] rfl rfl rfl ok26 ⟨_, _, rfl⟩ rfl rfl (mc := 2)) ?_
         refine RT.sub [(2, _), (48, _)] ⟨rfl, rfl, trivial⟩ ?_
         refine .cons rfl (r_store [] rfl rfl rfl rfl rfl rfl rfl rfl ok26 rfl rfl rfl rfl) <| .nil ?_
         refine AW.sub [(2, _)] ⟨rfl, trivial⟩ ?_
         refine AW.ret ?_
         obtain rfl := Option.some.inj h0
         exact ⟨_, .cell rfl ok26 .nil, .inl ⟨rfl, rfl⟩, trivial⟩
        ·refine AW.seq (AW.reg hn hfx rfl ?_)
         refine .cons rfl (r_cmp rfl rfl rfl rfl rfl) <| .cons rfl (r_copy (.inr rfl) rfl rfl) <| .nil ?_
         refine AW.sub [(2, _), (3, _), (49, _)] ⟨rfl, rfl, rfl, trivial⟩ ?_
         refine AW.ifP rfl h0 (fun h0 => ?_) (fun h0 => ?_)
         ·refine AW.seq (AW.reg hn hfx rfl ?_)
          refine .cons rfl (r_buildSlice [] (e := tInt) (mc := 0) rfl rfl rfl ok38 rfl rfl rfl) <| .cons rfl (r_build [] rfl rfl rfl ok72 ⟨_, _, rfl⟩ rfl rfl (mc := 1)) <| .cons rfl (r_buildSlice [] (e := ty72) (mc := 1) rfl rfl rfl ok24 rfl rfl rfl) <| .cons rfl (r_build [] rfl rfl rfl ok26 ⟨_, _, rfl⟩ rfl rfl (mc := 2)) ?_
          refine RT.sub [(2, _), (54, _)] ⟨rfl, rfl, trivial⟩ ?_
          refine .cons rfl (r_store [] rfl rfl rfl rfl rfl rfl rfl rfl ok26 rfl rfl rfl rfl) <| .nil ?_
          refine AW.sub [(2, _)] ⟨rfl, trivial⟩ ?_
          refine AW.ret ?_
          obtain rfl := Option.some.inj h0
          exact ⟨_, .cell rfl ok26 .nil, .inl ⟨rfl, rfl⟩, trivial⟩
         ·refine AW.seq (AW.reg hn hfx rfl ?_)
          refine .cons rfl (r_cmp rfl rfl rfl rfl rfl) <| .cons rfl (r_copy (.inr rfl) rfl rfl) <| .nil ?_
          refine AW.sub [(2, _), (3, _), (55, _)] ⟨rfl, rfl, rfl, trivial⟩ ?_
          refine AW.ifP rfl h0 (fun h0 => ?_) (fun h0 => ?_)
          ·refine AW.seq (AW.reg hn hfx rfl ?_)
           refine .cons rfl (r_buildSlice [] (e := tInt) (mc := 0) rfl rfl rfl ok38 rfl rfl rfl) <| .cons rfl (r_build [] rfl rfl rfl ok72 ⟨_, _, rfl⟩ rfl rfl (mc := 1)) <| .cons rfl (r_buildSlice [] (e := ty72) (mc := 1) rfl rfl rfl ok24 rfl rfl rfl) <| .cons rfl (r_build [] rfl rfl rfl ok26 ⟨_, _, rfl⟩ rfl rfl (mc := 2)) ?_
           refine RT.sub [(2, _), (60, _)] ⟨rfl, rfl, trivial⟩ ?_
           refine .cons rfl (r_store [] rfl rfl rfl rfl rfl rfl rfl rfl ok26 rfl rfl rfl rfl) <| .nil ?_
           refine AW.sub [(2, _)] ⟨rfl, trivial⟩ ?_
           refine AW.ret ?_
           obtain rfl := Option.some.inj h0
           exact ⟨_, .cell rfl ok26 .nil, .inl ⟨rfl, rfl⟩, trivial⟩
          ·refine AW.seq (AW.reg hn hfx rfl ?_)
           refine .cons rfl (r_cmp rfl rfl rfl rfl rfl) <| .cons rfl (r_copy (.inr rfl) rfl rfl) <| .nil ?_
           refine AW.sub [(2, _), (3, _), (61, _)] ⟨rfl, rfl, rfl, trivial⟩ ?_
           refine AW.ifP rfl h0 (fun h0 => ?_) (fun h0 => ?_)
           ·refine AW.seq (AW.reg hn hfx rfl ?_)
            obtain ⟨x12, hx12, h0⟩ := bindE h0
            refine .cons rfl (r_call rfl rfl rfl Try.func82 rfl rfl (W82 hx12) rfl) <| .cons rfl (r_buildSlice [] (e := ty72) (mc := 1) rfl rfl rfl ok24 rfl rfl rfl) <| .cons rfl (r_build [] rfl rfl rfl ok26 ⟨_, _, rfl⟩ rfl rfl (mc := 2)) <| .cons rfl (r_store [] rfl rfl rfl rfl rfl rfl rfl rfl ok26 rfl rfl rfl rfl) <| .nil ?_
            refine AW.sub [(2, _)] ⟨rfl, trivial⟩ ?_
            refine AW.ret ?_
            obtain rfl := Option.some.inj h0
            exact ⟨_, .cell rfl ok26 .nil, .inl ⟨rfl, rfl⟩, trivial⟩
           ·refine AW.seq (AW.reg hn hfx rfl ?_)
            refine .cons rfl (r_cmp rfl rfl rfl rfl rfl) <| .cons rfl (r_copy (.inr rfl) rfl rfl) <| .nil ?_
            refine AW.sub [(2, _), (3, _), (66, _)] ⟨rfl, rfl, rfl, trivial⟩ ?_
            refine AW.ifP rfl h0 (fun h0 => ?_) (fun h0 => ?_)
            ·refine AW.seq (AW.reg hn hfx rfl ?_)
             obtain ⟨x13, hx13, h0⟩ := bindE h0
             refine .cons rfl (r_call rfl rfl rfl Try.func82 rfl rfl (W82 hx13) rfl) ?_
             obtain ⟨x14, hx14, h0⟩ := bindE h0
             refine .cons rfl (r_call rfl rfl rfl Try.func82 rfl rfl (W82 hx14) rfl) <| .cons rfl (r_buildSlice [] (e := ty72) (mc := 1) rfl rfl rfl ok24 rfl rfl rfl) <| .cons rfl (r_build [] rfl rfl rfl ok26 ⟨_, _, rfl⟩ rfl rfl (mc := 2)) ?_
             refine RT.sub [(2, _), (71, _)] ⟨rfl, rfl, trivial⟩ ?_
             refine .cons rfl (r_store [] rfl rfl rfl rfl rfl rfl rfl rfl ok26 rfl rfl rfl rfl) <| .nil ?_
             refine AW.sub [(2, _)] ⟨rfl, trivial⟩ ?_
             refine AW.ret ?_
             obtain rfl := Option.some.inj h0
             exact ⟨_, .cell rfl ok26 .nil, .inl ⟨rfl, rfl⟩, trivial⟩
            ·refine AW.seq (AW.reg hn hfx rfl ?_)
             refine .cons rfl (r_cmp rfl rfl rfl rfl rfl) <| .cons rfl (r_copy (.inr rfl) rfl rfl) <| .nil ?_
             refine AW.sub [(2, _), (3, _), (72, _)] ⟨rfl, rfl, rfl, trivial⟩ ?_
             refine AW.ifP rfl h0 (fun h0 => ?_) (fun h0 => ?_)
             ·refine AW.seq (AW.reg hn hfx rfl ?_)
              obtain ⟨x15, hx15, h0⟩ := bindE h0
              refine .cons rfl (r_call rfl rfl rfl Try.func82 rfl rfl (W82 hx15) rfl) <| .cons rfl (r_buildSlice [] (e := ty72) (mc := 1) rfl rfl rfl ok24 rfl rfl rfl) <| .cons rfl (r_build [] rfl rfl rfl ok26 ⟨_, _, rfl⟩ rfl rfl (mc := 2)) <| .cons rfl (r_store [] rfl rfl rfl rfl rfl rfl rfl rfl ok26 rfl rfl rfl rfl) <| .nil ?_
              refine AW.sub [(2, _)] ⟨rfl, trivial⟩ ?_
              refine AW.ret ?_
              obtain rfl := Option.some.inj h0
              exact ⟨_, .cell rfl ok26 .nil, .inl ⟨rfl, rfl⟩, trivial⟩
             ·refine AW.seq (AW.reg hn hfx rfl ?_)
              refine .cons rfl (r_cmp rfl rfl rfl rfl rfl) <| .cons rfl (r_copy (.inr rfl) rfl rfl) <| .nil ?_
              refine AW.sub [(2, _), (3, _), (77, _)] ⟨rfl, rfl, rfl, trivial⟩ ?_
              refine AW.ifP rfl h0 (fun h0 => ?_) (fun h0 => ?_)
              ·refine AW.seq (AW.reg hn hfx rfl ?_)
               refine .cons rfl (r_buildSlice [] (e := tInt) (mc := 0) rfl rfl rfl ok38 rfl rfl rfl) <| .cons rfl (r_build [] rfl rfl rfl ok72 ⟨_, _, rfl⟩ rfl rfl (mc := 1)) <| .cons rfl (r_buildSlice [] (e := tInt) (mc := 0) rfl rfl rfl ok38 rfl rfl rfl) <| .cons rfl (r_build [] rfl rfl rfl ok72 ⟨_, _, rfl⟩ rfl rfl (mc := 1)) ?_
               refine RT.sub [(2, _), (80, _), (82, _)] ⟨rfl, rfl, rfl, trivial⟩ ?_
               refine .cons rfl (r_buildSlice [] (e := ty72) (mc := 1) rfl rfl rfl ok24 rfl rfl rfl) <| .cons rfl (r_build [] rfl rfl rfl ok26 ⟨_, _, rfl⟩ rfl rfl (mc := 2)) <| .cons rfl (r_store [] rfl rfl rfl rfl rfl rfl rfl rfl ok26 rfl rfl rfl rfl) <| .nil ?_
               refine AW.sub [(2, _)] ⟨rfl, trivial⟩ ?_
               refine AW.ret ?_
               obtain rfl := Option.some.inj h0
               exact ⟨_, .cell rfl ok26 .nil, .inl ⟨rfl, rfl⟩, trivial⟩
              ·refine AW.seq (AW.reg hn hfx rfl ?_)
               refine .cons rfl (r_cmp rfl rfl rfl rfl rfl) <| .cons rfl (r_copy (.inr rfl) rfl rfl) <| .nil ?_
               refine AW.sub [(2, _), (3, _), (85, _)] ⟨rfl, rfl, rfl, trivial⟩ ?_
               refine AW.ifP rfl h0 (fun h0 => ?_) (fun h0 => ?_)
               ·refine AW.seq (AW.reg hn hfx rfl ?_)
                obtain ⟨x16, hx16, h0⟩ := bindE h0
                refine .cons rfl (r_call rfl rfl rfl Try.func82 rfl rfl (W82 hx16) rfl) <| .cons rfl (r_buildSlice [] (e := ty72) (mc := 1) rfl rfl rfl ok24 rfl rfl rfl) <| .cons rfl (r_build [] rfl rfl rfl ok26 ⟨_, _, rfl⟩ rfl rfl (mc := 2)) <| .cons rfl (r_store [] rfl rfl rfl rfl rfl rfl rfl rfl ok26 rfl rfl rfl rfl) <| .nil ?_
                refine AW.sub [(2, _)] ⟨rfl, trivial⟩ ?_
                refine AW.ret ?_
                obtain rfl := Option.some.inj h0
                exact ⟨_, .cell rfl ok26 .nil, .inl ⟨rfl, rfl⟩, trivial⟩
               ·refine AW.seq (AW.reg hn hfx rfl ?_)
                refine .cons rfl (r_cmp rfl rfl rfl rfl rfl) <| .cons rfl (r_copy (.inr rfl) rfl rfl) <| .nil ?_
                refine AW.sub [(2, _), (90, _)] ⟨rfl, rfl, trivial⟩ ?_
                refine AW.ifP rfl h0 (fun h0 => ?_) (fun h0 => ?_)
                ·refine AW.seq (AW.reg hn hfx rfl ?_)
                 obtain ⟨x17, hx17, h0⟩ := bindE h0
                 refine .cons rfl (r_call rfl rfl rfl Try.func83 rfl rfl (W83 hx17) rfl) <| .cons rfl (r_buildSlice [] (e := ty72) (mc := 1) rfl rfl rfl ok24 rfl rfl rfl) <| .cons rfl (r_build [] rfl rfl rfl ok26 ⟨_, _, rfl⟩ rfl rfl (mc := 2)) <| .cons rfl (r_store [] rfl rfl rfl rfl rfl rfl rfl rfl ok26 rfl rfl rfl rfl) <| .nil ?_
                 refine AW.sub [(2, _)] ⟨rfl, trivial⟩ ?_
                 refine AW.ret ?_
                 obtain rfl := Option.some.inj h0
                 exact ⟨_, .cell rfl ok26 .nil, .inl ⟨rfl, rfl⟩, trivial⟩
                ·refine AW.skip ?_
                 refine AW.seq (AW.reg hn hfx rfl ?_)
                 refine .cons rfl (r_build [] rfl rfl rfl ok26 ⟨_, _, rfl⟩ rfl rfl (mc := 2)) <| .cons rfl (r_store [] rfl rfl rfl rfl rfl rfl rfl rfl ok26 rfl rfl rfl rfl) <| .nil ?_
                 refine AW.sub [(2, _)] ⟨rfl, trivial⟩ ?_
                 refine AW.ret ?_
                 obtain rfl := Option.some.inj h0
                 exact ⟨_, .cell rfl ok26 .nil, .inl ⟨rfl, rfl⟩, trivial⟩

theorem W81  {n : Int} {k : Int} {r : Int} (h0 : spec_l2Pow n k = some r) : Meets Try.prog 81 [⟨tInt, 0, n⟩, ⟨tInt, 0, k⟩] [⟨tInt, 0, r⟩] [⟨tInt, 0, n⟩, ⟨tInt, 0, k⟩] := by
 refine Meets.of_body (fn := Try.f81) Try.func81 rfl rfl rfl fun c hn hfx => ?_
 unfold spec_l2Pow at h0
 refine AW.seq (AW.reg hn hfx rfl ?_)
 refine .cons rfl (r_copy (.inr rfl) rfl rfl) <| .nil ?_
 refine AW.sub [(0, _), (1, _)] ⟨rfl, rfl, trivial⟩ ?_
 refine AW.seq (AW.reg hn hfx rfl ?_)
 refine .cons rfl (r_copy (.inr rfl) rfl rfl) <| .nil ?_
 refine AW.sub [(0, _), (1, _), (5, _)] ⟨rfl, rfl, rfl, trivial⟩ ?_
 obtain ⟨z5, h1, h0⟩ := bindE h0
 refine AW.seq (AW.joinJ [] trivial [(5, .val tInt 0 z5)] ?_ ?_)
 ·refine AW.block ?_
  refine AW.loopP h1 [(0, _)] ⟨rfl, trivial⟩ (fun s7 => [(1, .val tInt 0 s7.1), (5, .val tInt 0 s7.2)]) ⟨rfl, rfl, rfl, trivial⟩ fun s7 z8 h2 => ?_
  refine AW.seq ?_
  refine AW.seq (AW.reg hn hfx rfl ?_)
  refine .cons rfl (r_copy (.inl rfl) rfl rfl) <| .cons rfl (r_cmp rfl rfl rfl rfl rfl) <| .nil ?_
  refine AW.sub [(0, _), (1, _), (5, _), (7, _)] ⟨rfl, rfl, rfl, rfl, trivial⟩ ?_
  refine AW.ifP rfl h2 (fun h2 => ?_) (fun h2 => ?_)
  ·refine AW.skip ?_
   refine AW.seq (AW.block ?_)
   refine AW.reg hn hfx rfl ?_
   refine .cons rfl (r_copy (.inl rfl) rfl rfl) <| .cons rfl (r_copy (.inl rfl) rfl rfl) <| .cons rfl (r_arith rfl rfl rfl rfl rfl) <| .cons rfl (r_copy (.inr rfl) rfl rfl) <| .nil ?_
   refine AW.sub [(0, _), (1, _), (5, _)] ⟨rfl, rfl, rfl, trivial⟩ ?_
   refine AW.reg hn hfx rfl ?_
   refine .cons rfl (r_copy (.inl rfl) rfl rfl) <| .cons rfl (r_arith rfl rfl rfl rfl rfl) <| .cons rfl (r_copy (.inr rfl) rfl rfl) <| .nil ?_
   exact ⟨_, (Option.some.inj h2).symm, ⟨rfl, rfl, rfl, trivial⟩⟩
  ·refine AW.exit ?_
   refine ⟨_, (Option.some.inj h2).symm, fun hz => ?_⟩
   subst hz
   exact ⟨rfl, trivial⟩
 ·intro l1 hl1
  refine AW.weaken hl1.sub ?_
  refine AW.seq (AW.reg hn hfx rfl ?_)
  refine .cons rfl (r_copy (.inl rfl) rfl rfl) <| .cons rfl (r_copy (.inr rfl) rfl rfl) <| .nil ?_
  refine AW.sub [(4, _)] ⟨rfl, trivial⟩ ?_
  refine AW.ret ?_
  obtain rfl := Option.some.inj h0
  exact ⟨_, .tmp rfl rfl .nil, .inl ⟨rfl, rfl⟩, .inl ⟨rfl, rfl⟩, trivial⟩

end Go.Proofs.Ytoaajjhcdbbfdaa
namespace Go.Proofs.Ytoaajjhcdbbfdaa
open Go.Abs Go.Pure
-- theorem hmix : Try.prog.follows .mixedOrders = true := by kernel_rfl
theorem W51  {c_ : ((List Int) × (Int × (Int × Unit)))} {r : ((Int × ((List (Int × ((List Int) × Unit))) × Unit)) × ((List Int) × (Int × (Int × Unit))))} (h0 : spec_l1Cur_algebra c_ = some r) : Meets Try.prog 51 [⟨(.ptr ty48), 1, c_⟩] [⟨ty26, 2, r.1⟩] [⟨(.ptr ty48), 1, r.2⟩] := by
 refine Meets.of_body (fn := Try.f51) Try.func51 rfl rfl rfl fun c hn hfx => ?_
 unfold spec_l1Cur_algebra at h0
 refine AW.seq (AW.reg hn hfx rfl ?_)
 refine .cons rfl (r_alloc rfl ok26 rfl) <| .nil ?_
 refine AW.sub [(0, _), (2, _)] ⟨rfl, rfl, trivial⟩ ?_
 refine AW.seq ?_
 refine AW.seq (AW.reg hn hfx rfl ?_)
 refine .cons rfl (r_alias rfl rfl) ?_
 obtain ⟨x1, hx1, h0⟩ := bindE h0
 refine .cons rfl (r_callM [] rfl rfl rfl Try.func27 rfl rfl (fun us0 _ => (W27 hx1).toU (us0 ++ [])) (.io rfl (.lend rfl .nil)) rfl) <| .cons rfl (r_not rfl rfl rfl) <| .nil ?_
 refine AW.sub [(0, _), (2, _), (11, _)] ⟨rfl, rfl, rfl, trivial⟩ ?_
 refine AW.ifP rfl h0 (fun h0 => ?_) (fun h0 => ?_)
 ·refine AW.seq (AW.reg hn hfx rfl ?_)
  refine .cons rfl (r_alias rfl rfl) ?_
  obtain ⟨x2, hx2, h0⟩ := bindE h0
  refine .cons rfl (r_callM [] rfl rfl rfl Try.func54 rfl rfl (fun us0 _ => (W54 hx2).toU (us0 ++ [])) (.io rfl (.lend rfl .nil)) rfl) ?_
  obtain ⟨x3, hx3, h0⟩ := bindE h0
  refine .cons rfl (r_call rfl rfl rfl Try.func52 rfl rfl (W52 hx3) rfl) <| .cons rfl (r_alloc rfl ok26 rfl) ?_
  refine RT.sub [(0, _), (2, _), (3, _), (14, _)] ⟨rfl, rfl, rfl, rfl, trivial⟩ ?_
  refine .cons rfl (r_store [] rfl rfl rfl rfl rfl rfl rfl rfl ok26 rfl rfl rfl rfl) <| .nil ?_
  refine AW.sub [(0, _), (2, _), (3, _)] ⟨rfl, rfl, rfl, trivial⟩ ?_
  refine AW.seq (AW.reg hn hfx rfl ?_)
  refine .cons rfl (r_load_ref rfl rfl rfl rfl ok26) <| .cons rfl (r_store [15] rfl rfl rfl rfl rfl rfl rfl rfl ok26 rfl rfl rfl rfl) <| .nil ?_
  refine AW.sub [(0, _), (2, _)] ⟨rfl, rfl, trivial⟩ ?_
  refine AW.ret ?_
  obtain rfl := Option.some.inj h0
  exact ⟨_, .cell rfl ok26 .nil, .inr ⟨nofun, rfl⟩, trivial⟩
 ·refine AW.skip ?_
  refine AW.seq (AW.reg hn hfx rfl ?_)
  refine .cons rfl (r_alias rfl rfl) <| .cons rfl (r_buildSlice [] (e := tInt) (mc := 0) rfl rfl rfl ok38 rfl rfl rfl) ?_
  refine RT.lower 17 0 rfl ?_
  obtain ⟨x4, hx4, h0⟩ := bindE h0
  refine .cons rfl (r_callM [] rfl rfl rfl Try.func53 rfl rfl (fun us0 _ => (W53 hx4).toU (us0 ++ [])) (.io rfl (.lend rfl .nil)) rfl) <| .cons rfl (r_copy (.inr rfl) rfl rfl) <| .nil ?_
  refine AW.sub [(0, _), (2, _), (4, _)] ⟨rfl, rfl, rfl, trivial⟩ ?_
  refine AW.seq (AW.reg hn hfx rfl ?_)
  refine .cons rfl (r_copy (.inl rfl) rfl rfl) <| .cons rfl (r_build [] rfl rfl rfl ok26 ⟨_, _, rfl⟩ rfl rfl (mc := 2)) <| .cons rfl (r_alloc rfl ok26 rfl) <| .cons rfl (r_store [] rfl rfl rfl rfl rfl rfl rfl rfl ok26 rfl rfl rfl rfl) <| .nil ?_
  refine AW.sub [(0, _), (2, _), (4, _), (5, _)] ⟨rfl, rfl, rfl, rfl, trivial⟩ ?_
  refine AW.seq ?_
  refine AW.seq (AW.reg hn hfx rfl ?_)
  refine .cons rfl (r_alias rfl rfl) <| .cons rfl (r_buildSlice [] (e := tInt) (mc := 0) rfl rfl rfl ok38 rfl rfl rfl) ?_
  refine RT.lower 22 0 rfl ?_
  obtain ⟨x5, hx5, h0⟩ := bindE h0
  refine .cons rfl (r_callM [] rfl rfl rfl Try.func53 rfl rfl (fun us0 _ => (W53 hx5).toU (us0 ++ [])) (.io rfl (.lend rfl .nil)) rfl) <| .cons rfl (r_copy (.inr rfl) rfl rfl) <| .nil ?_
  refine AW.sub [(0, _), (2, _), (4, _), (5, _), (6, _)] ⟨rfl, rfl, rfl, rfl, rfl, trivial⟩ ?_
  obtain ⟨z62, h1, h0⟩ := bindE h0
  refine AW.joinJ [(2, _), (4, _)] ⟨rfl, rfl, trivial⟩ [(0, .val (.ptr ty48) 1 z62.1), (5, .val (.ptr ty26) 3 z62.2)] ?_ ?_
  ·refine AW.block ?_
   refine AW.loopP h1 [(2, _), (4, _)] ⟨rfl, rfl, trivial⟩ (fun s90 => [(0, .val (.ptr ty48) 1 s90.1), (5, .val (.ptr ty26) 3 s90.2.1), (6, .val tInt 0 s90.2.2)]) ⟨rfl, rfl, rfl, rfl, rfl, trivial⟩ fun s90 z117 h2 => ?_
   refine AW.seq ?_
   refine AW.seq (AW.reg hn hfx rfl ?_)
   refine .cons rfl (r_copy (.inl rfl) rfl rfl) <| .cons rfl (r_cmp rfl rfl rfl rfl rfl) <| .nil ?_
   refine AW.sub [(0, _), (2, _), (4, _), (5, _), (6, _), (25, _)] ⟨rfl, rfl, rfl, rfl, rfl, rfl, trivial⟩ ?_
   refine AW.ifP rfl h2 (fun h2 => ?_) (fun h2 => ?_)
   ·refine AW.skip ?_
    refine AW.seq (AW.block ?_)
    refine AW.seq (AW.reg hn hfx rfl ?_)
    refine .cons rfl (r_alias rfl rfl) <| .cons rfl (r_buildSlice [] (e := tInt) (mc := 0) rfl rfl rfl ok38 rfl rfl rfl) ?_
    refine RT.lower 29 0 rfl ?_
    obtain ⟨x91, hx91, h2⟩ := bindE h2
    refine .cons rfl (r_callM [] rfl rfl rfl Try.func53 rfl rfl (fun us0 _ => (W53 hx91).toU (us0 ++ [])) (.io rfl (.lend rfl .nil)) rfl) <| .cons rfl (r_build [] rfl rfl rfl ok72 ⟨_, _, rfl⟩ rfl rfl (mc := 1)) ?_
    refine RT.sub [(0, _), (2, _), (4, _), (5, _), (6, _), (31, _)] ⟨rfl, rfl, rfl, rfl, rfl, rfl, trivial⟩ ?_
    refine .cons rfl (r_alloc rfl ok72 rfl) <| .cons rfl (r_store [] rfl rfl rfl rfl rfl rfl rfl rfl ok72 rfl rfl rfl rfl) <| .nil ?_
    refine AW.sub [(0, _), (2, _), (4, _), (5, _), (6, _), (7, _)] ⟨rfl, rfl, rfl, rfl, rfl, rfl, trivial⟩ ?_
    refine AW.seq ?_
    obtain ⟨z93, h3, h2⟩ := bindE h2
    refine AW.seq (AW.joinJ [(0, _), (2, _), (4, _), (5, _), (6, _), (7, _)] ⟨rfl, rfl, rfl, rfl, rfl, rfl, trivial⟩ [(38, .val .bool 0 z93)] ?_ ?_)
    ·refine AW.reg hn hfx rfl ?_
     refine .cons rfl (r_copy (.inl rfl) rfl rfl) <| .cons rfl (r_cmp rfl rfl rfl rfl rfl) ?_
     refine .ifP (.inl rfl) rfl rfl h3 (fun h3 => ?_) (fun h3 => ?_)
     ·refine .cons (.inl ⟨_, _, _, rfl, rfl, rfl⟩) (r_field rfl rfl rfl rfl ok72 rfl rfl) ?_
      refine RT.sub [(0, _), (2, _), (4, _), (5, _), (6, _), (7, _), (34, _), (35, _)] ⟨rfl, rfl, rfl, rfl, rfl, rfl, rfl, rfl, trivial⟩ ?_
      refine .cons (.inl ⟨_, _, _, rfl, rfl, rfl⟩) (r_load rfl rfl rfl rfl ok3 rfl) <| .cons (.inl ⟨_, _, _, rfl, rfl, rfl⟩) (r_cmp rfl rfl rfl rfl rfl) <| .cons rfl (r_pick_true rfl rfl rfl rfl) <| .nil ?_
      obtain rfl := Option.some.inj h3
      exact ⟨rfl, rfl, rfl, rfl, rfl, rfl, rfl, trivial⟩
     ·refine .pass (.inl ⟨_, _, _, rfl, rfl, rfl⟩) ?_
      refine RT.sub [(0, _), (2, _), (4, _), (5, _), (6, _), (7, _), (34, _), (35, _)] ⟨rfl, rfl, rfl, rfl, rfl, rfl, rfl, rfl, trivial⟩ ?_
      refine .pass (.inl ⟨_, _, _, rfl, rfl, rfl⟩) <| .pass (.inl ⟨_, _, _, rfl, rfl, rfl⟩) <| .cons rfl (r_pick_false rfl rfl rfl rfl) <| .nil ?_
      obtain rfl := Option.some.inj h3
      exact ⟨rfl, rfl, rfl, rfl, rfl, rfl, rfl, trivial⟩
    ·intro l1 hl1
     refine AW.weaken hl1.sub ?_
     refine AW.sub [(0, _), (2, _), (4, _), (5, _), (6, _), (7, _), (38, _)] ⟨rfl, rfl, rfl, rfl, rfl, rfl, rfl, trivial⟩ ?_
     obtain ⟨z96, h3, h2⟩ := bindE h2
     refine AW.joinJ [(0, _), (2, _), (4, _), (5, _), (6, _)] ⟨rfl, rfl, rfl, rfl, rfl, trivial⟩ [(7, .val (.ptr ty72) 2 z96)] ?_ ?_
     ·refine AW.ifP rfl h3 (fun h3 => ?_) (fun h3 => ?_)
      ·refine AW.reg hn hfx rfl ?_
       refine .cons rfl (r_field rfl rfl rfl rfl ok72 rfl rfl) <| .cons rfl (r_store [] rfl rfl rfl rfl rfl rfl rfl rfl ok3 rfl rfl rfl rfl) <| .nil ?_
       obtain rfl := Option.some.inj h3
       exact ⟨rfl, rfl, rfl, rfl, rfl, rfl, trivial⟩
      ·refine AW.skip ?_
       obtain rfl := Option.some.inj h3
       exact ⟨rfl, rfl, rfl, rfl, rfl, rfl, trivial⟩
     ·intro l1 hl1
      refine AW.weaken hl1.sub ?_
      refine AW.seq ?_
      refine AW.seq (AW.reg hn hfx rfl ?_)
      refine .cons rfl (r_copy (.inl rfl) rfl rfl) <| .cons rfl (r_field rfl rfl rfl rfl ok72 rfl rfl) <| .cons rfl (r_load rfl rfl rfl rfl ok3 rfl) ?_
      obtain ⟨x98, hx98, h2⟩ := bindE h2
      refine .cons rfl (r_call rfl rfl rfl Try.func81 rfl rfl (W81 hx98) rfl) ?_
      refine RT.sub [(0, _), (2, _), (4, _), (5, _), (6, _), (7, _), (43, _)] ⟨rfl, rfl, rfl, rfl, rfl, rfl, rfl, trivial⟩ ?_
      refine .cons rfl (r_copy (.inr rfl) rfl rfl) <| .nil ?_
      refine AW.sub [(0, _), (2, _), (4, _), (5, _), (6, _), (7, _), (8, _)] ⟨rfl, rfl, rfl, rfl, rfl, rfl, rfl, trivial⟩ ?_
      obtain ⟨z107, h3, h2⟩ := bindE h2
      refine AW.joinJ [(2, _), (4, _), (5, _), (6, _)] ⟨rfl, rfl, rfl, rfl, trivial⟩ [(0, .val (.ptr ty48) 1 z107.1), (7, .val (.ptr ty72) 2 z107.2)] ?_ ?_
      ·refine AW.block ?_
       refine AW.loopP h3 [(2, _), (4, _), (5, _), (6, _)] ⟨rfl, rfl, rfl, rfl, trivial⟩ (fun s111 => [(0, .val (.ptr ty48) 1 s111.1), (7, .val (.ptr ty72) 2 s111.2.1), (8, .val tInt 0 s111.2.2)]) ⟨rfl, rfl, rfl, rfl, rfl, rfl, rfl, trivial⟩ fun s111 z114 h4 => ?_
       refine AW.seq ?_
       refine AW.seq (AW.reg hn hfx rfl ?_)
       refine .cons rfl (r_copy (.inl rfl) rfl rfl) <| .cons rfl (r_cmp rfl rfl rfl rfl rfl) <| .nil ?_
       refine AW.sub [(0, _), (2, _), (4, _), (5, _), (6, _), (7, _), (8, _), (45, _)] ⟨rfl, rfl, rfl, rfl, rfl, rfl, rfl, rfl, trivial⟩ ?_
       refine AW.ifP rfl h4 (fun h4 => ?_) (fun h4 => ?_)
       ·refine AW.skip ?_
        refine AW.seq (AW.block ?_)
        refine AW.draw hmix hn hfx rfl rfl ?_
        refine .cons rfl (r_field rfl rfl rfl rfl ok72 rfl rfl) rfl rfl rfl <| .cons rfl (r_load_ref rfl rfl rfl rfl ok38) rfl rfl rfl <| .cons rfl (r_aliasF rfl) rfl rfl rfl <| .cons rfl (r_copy (.inl rfl) rfl rfl) rfl rfl rfl ?_
        refine DT.eq [(51, _), (50, _), (49, _), (48, _), (0, _), (2, _), (4, _), (5, _), (6, _), (7, _), (8, _), (45, _)] rfl ?_
        obtain ⟨x112, hx112, h4⟩ := bindE h4
        refine .cons rfl (r_callM [] rfl rfl rfl Try.func54 rfl rfl (fun us0 _ => (W54 hx112).toU (us0 ++ [])) (.io rfl (.lend rfl .nil)) rfl) rfl rfl rfl <| .cons rfl (r_buildSlice [] (e := tInt) (mc := 0) rfl rfl rfl ok38 rfl rfl rfl) rfl rfl rfl ?_
        obtain ⟨x113, hx113, h4⟩ := bindE h4
        refine .cons rfl (r_append [] rfl rfl rfl ok38 rfl (mr := 0) rfl rfl (app_len hx113) (app_eq hx113)) rfl rfl rfl <| .cons rfl (r_field rfl rfl rfl rfl ok72h0 rfl rfl) rfl rfl rfl ?_
        refine DT.eq [(55, _), (54, _), (7, _), (52, _), (0, _), (51, _), (50, _), (2, _), (4, _), (5, _), (6, _), (8, _), (45, _)] rfl ?_
        refine .cons rfl (r_store [] rfl rfl rfl rfl rfl rfl rfl rfl ok38 rfl rfl rfl rfl) rfl rfl rfl <| .nil rfl ?_
        refine AW.sub [(0, _), (2, _), (4, _), (5, _), (6, _), (7, _), (8, _)] ⟨rfl, rfl, rfl, rfl, rfl, rfl, rfl, trivial⟩ ?_
        refine AW.reg hn hfx rfl ?_
        refine .cons rfl (r_copy (.inl rfl) rfl rfl) <| .cons rfl (r_arith rfl rfl rfl rfl rfl) <| .cons rfl (r_copy (.inr rfl) rfl rfl) <| .nil ?_
        exact ⟨_, (Option.some.inj h4).symm, ⟨rfl, rfl, rfl, rfl, rfl, rfl, rfl, trivial⟩⟩
       ·refine AW.exit ?_
        refine ⟨_, (Option.some.inj h4).symm, fun hz => ?_⟩
        subst hz
        exact ⟨rfl, rfl, rfl, rfl, rfl, rfl, trivial⟩
      ·intro l1 hl1
       refine AW.weaken hl1.sub ?_
       refine AW.reg hn hfx rfl ?_
       refine .cons rfl (r_field rfl rfl rfl rfl ok26 rfl rfl) <| .cons rfl (r_load_ref rfl rfl rfl rfl ok24) <| .cons rfl (r_load_ref rfl rfl rfl rfl ok72) <| .cons rfl (r_buildSlice [58] (e := ty72) (mc := 1) rfl rfl rfl ok24 rfl rfl rfl) ?_
       refine RT.sub [(0, _), (2, _), (4, _), (5, _), (6, _), (57, _), (59, _)] ⟨rfl, rfl, rfl, rfl, rfl, rfl, rfl, trivial⟩ ?_
       obtain ⟨x116, hx116, h2⟩ := bindE h2
       refine .cons rfl (r_append [] rfl rfl rfl ok24 rfl (mr := 1) rfl rfl (app_len hx116) (app_eq hx116)) <| .cons rfl (r_field rfl rfl rfl rfl ok26h0 rfl rfl) <| .cons rfl (r_store [] rfl rfl rfl rfl rfl rfl rfl rfl ok24 rfl rfl rfl rfl) <| .nil ?_
       refine AW.sub [(0, _), (2, _), (4, _), (5, _), (6, _)] ⟨rfl, rfl, rfl, rfl, rfl, trivial⟩ ?_
       refine AW.reg hn hfx rfl ?_
       refine .cons rfl (r_copy (.inl rfl) rfl rfl) <| .cons rfl (r_arith rfl rfl rfl rfl rfl) <| .cons rfl (r_copy (.inr rfl) rfl rfl) <| .nil ?_
       exact ⟨_, (Option.some.inj h2).symm, ⟨rfl, rfl, rfl, rfl, rfl, trivial⟩⟩
   ·refine AW.exit ?_
    refine ⟨_, (Option.some.inj h2).symm, fun hz => ?_⟩
    subst hz
    exact ⟨rfl, rfl, rfl, rfl, trivial⟩
  ·intro l1 hl1
   refine AW.weaken hl1.sub ?_
   refine AW.seq ?_
   refine AW.seq (AW.reg hn hfx rfl ?_)
   refine .cons rfl (r_alias rfl rfl) ?_
   obtain ⟨x119, hx119, h0⟩ := bindE h0
   refine .cons rfl (r_callM [] rfl rfl rfl Try.func54 rfl rfl (fun us0 _ => (W54 hx119).toU (us0 ++ [])) (.io rfl (.lend rfl .nil)) rfl) <| .nil ?_
   refine AW.sub [(0, _), (2, _), (4, _), (5, _), (63, _)] ⟨rfl, rfl, rfl, rfl, rfl, trivial⟩ ?_
   refine AW.block ?_
   refine AW.seq (AW.reg hn hfx rfl ?_)
   refine .cons rfl (r_cmp rfl rfl rfl rfl rfl) <| .cons rfl (r_copy (.inr rfl) rfl rfl) <| .nil ?_
   refine AW.sub [(0, _), (2, _), (4, _), (5, _), (63, _), (64, _)] ⟨rfl, rfl, rfl, rfl, rfl, rfl, trivial⟩ ?_
   obtain ⟨z154, h1, h0⟩ := bindE h0
   refine AW.joinJ [(2, _)] ⟨rfl, trivial⟩ [(0, .val (.ptr ty48) 1 z154.1), (5, .val (.ptr ty26) 3 z154.2)] ?_ ?_
   ·refine AW.ifP rfl h1 (fun h1 => ?_) (fun h1 => ?_)
    ·refine AW.reg hn hfx rfl ?_
     refine .cons rfl (r_alias rfl rfl) <| .cons rfl (r_copy (.inl rfl) rfl rfl) <| .cons rfl (r_arith rfl rfl rfl rfl rfl) <| .cons rfl (r_buildSlice [] (e := tInt) (mc := 0) rfl rfl rfl ok38 rfl rfl rfl) ?_
     refine RT.sub [(0, _), (2, _), (5, _), (66, _), (69, _)] ⟨rfl, rfl, rfl, rfl, rfl, trivial⟩ ?_
     refine RT.lower 69 0 rfl ?_
     obtain ⟨x155, hx155, h1⟩ := bindE h1
     refine .cons rfl (r_callM [] rfl rfl rfl Try.func53 rfl rfl (fun us0 _ => (W53 hx155).toU (us0 ++ [])) (.io rfl (.lend rfl .nil)) rfl) <| .cons rfl (r_field rfl rfl rfl rfl ok26 rfl rfl) <| .cons rfl (r_store [] rfl rfl rfl rfl rfl rfl rfl rfl ok3 rfl rfl rfl rfl) <| .nil ?_
     obtain rfl := Option.some.inj h1
     exact ⟨rfl, rfl, rfl, trivial⟩
    ·refine AW.seq (AW.reg hn hfx rfl ?_)
     refine .cons rfl (r_cmp rfl rfl rfl rfl rfl) <| .cons rfl (r_copy (.inr rfl) rfl rfl) <| .nil ?_
     refine AW.sub [(0, _), (2, _), (4, _), (5, _), (63, _), (72, _)] ⟨rfl, rfl, rfl, rfl, rfl, rfl, trivial⟩ ?_
     refine AW.ifP rfl h1 (fun h1 => ?_) (fun h1 => ?_)
     ·obtain ⟨x156, hx156, h1⟩ := bindE h1
      have hx156M := idx_may hx156
      refine AW.cast 5 rfl cast_alg_may ?_
      refine carveAW 5 900099 [.d, .r, .l, .e (0 : Int).toNat, .r, .l] rfl (sub_alg (idx_get hx156M)) (carve_alg (idx_get hx156M)) rfl rfl fun uT => ?_
      have hx156S := idx_set (z := (x156.1, ((Sum.inl uT), x156.2.2))) hx156M
      refine AW.post ?_
      refine AW.draw hmix hn hfx rfl rfl ?_
      refine .cons rfl (r_field rfl rfl rfl rfl ok26h1 rfl rfl) rfl rfl rfl <| .cons rfl (r_load_ref rfl rfl rfl rfl ok24h0) rfl rfl rfl <| .cons rfl (r_field rfl rfl rfl rfl ok26h1 rfl rfl) rfl rfl rfl <| .cons rfl (r_load_ref rfl rfl rfl rfl ok24h0) rfl rfl rfl ?_
      refine DT.eq [(77, _), (76, _), (75, _), (74, _), (900099, _), (5, _), (0, _), (2, _), (4, _), (63, _), (72, _)] rfl ?_
      refine .cons rfl (r_index_own rfl rfl rfl rfl rfl ok24 (idx_nn hx156S) (idx_lt hx156S)) rfl rfl rfl <| .cons rfl (r_field rfl rfl rfl (sub_app rfl (sub_e (idx_get hx156S))) ok72h1 rfl rfl) rfl rfl rfl <| .cons rfl (r_loadMay rfl rfl rfl (sub_app (sub_app rfl (sub_e (idx_get hx156S))) rfl) ok38may) rfl rfl rfl <| .cons rfl (r_buildSlice [] (e := tInt) (mc := 0) rfl rfl rfl ok38 rfl rfl rfl) rfl rfl rfl ?_
      refine DT.eq [(81, _), (80, _), (79, _), (78, _), (77, _), (76, _), (75, _), (74, _), (900099, _), (5, _), (0, _), (2, _), (4, _), (63, _), (72, _)] rfl ?_
      obtain ⟨x158, hx158, h1⟩ := bindE h1
      refine .cons rfl (r_appendGh 900099 rfl rfl rfl rfl rfl rfl rfl ok38 rfl (mr := 0) rfl rfl (app_len hx158) (app_eq hx158)) rfl rfl rfl <| .cons rfl (r_index_own rfl rfl rfl rfl rfl ok24 (idx_nn hx156S) (idx_lt hx156S)) rfl rfl rfl <| .cons rfl (r_field rfl rfl rfl (sub_app rfl (sub_e (idx_get hx156S))) ok72h1 rfl rfl) rfl rfl rfl <| .cons rfl (r_storeC (v := ⟨(.may ty38), 1, (Sum.inr x158)⟩) [] rfl rfl rfl rfl rfl rfl cast_may rfl (sub_app (sub_app rfl (sub_e (idx_get hx156S))) rfl) ok38may rfl rfl rfl (repl_app (sub_app rfl (sub_e (idx_get hx156S))) rfl (repl_app rfl (repl_e (idx_get hx156S)) rfl))) rfl rfl rfl ?_
      refine DT.eq [(5, _), (0, _), (2, _), (4, _), (63, _), (72, _)] rfl ?_
      refine .nil rfl ?_
      refine ⟨_, CastTo.put 5 (t := (.ptr (.prod tInt (.prod (.slc (.prod tInt (.prod (.may ty38) .unit))) .unit)))) (x := (z62.2.1, (((mayL z62.2.2.1).set (0 : Int).toNat (x156.1, ((Sum.inl uT), x156.2.2))).set (0 : Int).toNat (x156.1, ((Sum.inr x158), x156.2.2)), z62.2.2.2))) rfl (cast_alg_unmay (i := tInt) (j := tInt) (u := .unit) (e := tInt) (v := .unit) (x := (z62.2.1, (((mayL z62.2.2.1).set (0 : Int).toNat (x156.1, ((Sum.inl uT), x156.2.2))).set (0 : Int).toNat (x156.1, ((Sum.inr x158), x156.2.2)), z62.2.2.2))) unmay_set), ?_⟩
      obtain rfl := Option.some.inj h1
      exact ⟨rfl, rfl, rfl, trivial⟩
     ·refine AW.seq (AW.reg hn hfx rfl ?_)
      refine .cons rfl (r_cmp rfl rfl rfl rfl rfl) <| .cons rfl (r_copy (.inr rfl) rfl rfl) <| .nil ?_
      refine AW.sub [(0, _), (2, _), (4, _), (5, _), (63, _), (85, _)] ⟨rfl, rfl, rfl, rfl, rfl, rfl, trivial⟩ ?_
      refine AW.ifP rfl h1 (fun h1 => ?_) (fun h1 => ?_)
      ·refine AW.draw hmix hn hfx rfl rfl ?_
       refine .cons rfl (r_field rfl rfl rfl rfl ok26 rfl rfl) rfl rfl rfl <| .cons rfl (r_load_ref rfl rfl rfl rfl ok24) rfl rfl rfl ?_
       obtain ⟨x160, hx160, h1⟩ := bindE h1
       refine .cons rfl (r_index_own rfl rfl rfl rfl rfl ok24 (idx_nn hx160) (idx_lt hx160)) rfl rfl rfl <| .cons rfl (r_field rfl rfl rfl (sub_app rfl (sub_e (idx_get hx160))) ok72 rfl rfl) rfl rfl rfl ?_
       refine DT.eq [(90, _), (89, _), (88, _), (87, _), (0, _), (2, _), (4, _), (5, _), (63, _), (85, _)] rfl ?_
       refine .cons rfl (r_load_ref rfl rfl rfl (sub_app (sub_app rfl (sub_e (idx_get hx160))) rfl) ok38) rfl rfl rfl <| .cons rfl (r_aliasF rfl) rfl rfl rfl <| .cons rfl (r_field rfl rfl rfl rfl ok26 rfl rfl) rfl rfl rfl <| .cons rfl (r_load_ref rfl rfl rfl rfl ok24) rfl rfl rfl ?_
       refine DT.eq [(94, _), (93, _), (92, _), (91, _), (90, _), (89, _), (88, _), (87, _), (0, _), (2, _), (4, _), (5, _), (63, _), (85, _)] rfl ?_
       obtain ⟨x161, hx161, h1⟩ := bindE h1
       refine .cons rfl (r_index_own rfl rfl rfl rfl rfl ok24 (idx_nn hx161) (idx_lt hx161)) rfl rfl rfl <| .cons rfl (r_field rfl rfl rfl (sub_app rfl (sub_e (idx_get hx161))) ok72 rfl rfl) rfl rfl rfl <| .cons rfl (r_load_ref rfl rfl rfl (sub_app (sub_app rfl (sub_e (idx_get hx161))) rfl) ok38) rfl rfl rfl <| .cons rfl (r_len_own rfl rfl rfl (sub_app (sub_app rfl (sub_e (idx_get hx161))) rfl) ok38 rfl) rfl rfl rfl ?_
       refine DT.eq [(98, _), (97, _), (96, _), (95, _), (94, _), (93, _), (92, _), (91, _), (90, _), (89, _), (88, _), (87, _), (0, _), (2, _), (4, _), (5, _), (63, _), (85, _)] rfl ?_
       obtain ⟨x162, hx162, h1⟩ := bindE h1
       refine .cons rfl (r_callM [] rfl rfl rfl Try.func54 rfl rfl (fun us0 _ => (W54 hx162).toU (us0 ++ [])) (.io rfl (.lend rfl .nil)) rfl) rfl rfl rfl <| .cons rfl (r_aliasF rfl) rfl rfl rfl <| .cons rfl (r_copy (.inl rfl) rfl rfl) rfl rfl rfl <| .cons rfl (SR.lower 0 (r_buildSlice [] (e := tInt) (mc := 0) rfl rfl rfl ok38 rfl rfl rfl)) rfl rfl rfl ?_
       refine DT.eq [(102, _), (101, _), (100, _), (99, _), (0, _), (98, _), (97, _), (96, _), (95, _), (94, _), (93, _), (92, _), (91, _), (90, _), (89, _), (88, _), (87, _), (2, _), (4, _), (5, _), (63, _), (85, _)] rfl ?_
       obtain ⟨x163, hx163, h1⟩ := bindE h1
       refine .cons rfl (r_callM [] rfl rfl rfl Try.func53 rfl rfl (fun us0 _ => (W53 hx163).toU (us0 ++ [])) (.io rfl (.lend rfl .nil)) rfl) rfl rfl rfl ?_
       obtain ⟨x164, hx164, h1⟩ := bindE h1
       refine .cons rfl (r_index_own rfl rfl rfl (sub_app (sub_app rfl (sub_e (idx_get hx160))) rfl) rfl ok38 (idx_nn hx164) (idx_lt hx164)) rfl rfl rfl <| .cons rfl (r_store [] rfl rfl rfl rfl rfl rfl rfl (sub_app (sub_app (sub_app rfl (sub_e (idx_get hx160))) rfl) (sub_e (idx_get hx164))) ok3 rfl rfl rfl (repl_app (sub_app (sub_app rfl (sub_e (idx_get hx160))) rfl) (repl_e (idx_get hx164)) (repl_app (sub_app rfl (sub_e (idx_get hx160))) rfl (repl_app rfl (repl_e (idx_get hx160)) rfl)))) rfl rfl rfl <| .nil rfl ?_
       obtain rfl := Option.some.inj h1
       exact ⟨rfl, rfl, rfl, trivial⟩
      ·refine AW.seq (AW.reg hn hfx rfl ?_)
       refine .cons rfl (r_cmp rfl rfl rfl rfl rfl) <| .cons rfl (r_copy (.inr rfl) rfl rfl) <| .nil ?_
       refine AW.sub [(0, _), (2, _), (4, _), (5, _), (63, _), (105, _)] ⟨rfl, rfl, rfl, rfl, rfl, rfl, trivial⟩ ?_
       refine AW.ifP rfl h1 (fun h1 => ?_) (fun h1 => ?_)
       ·refine AW.draw hmix hn hfx rfl rfl ?_
        refine .cons rfl (r_field rfl rfl rfl rfl ok26 rfl rfl) rfl rfl rfl <| .cons rfl (r_load_ref rfl rfl rfl rfl ok24) rfl rfl rfl <| .cons rfl (r_aliasF rfl) rfl rfl rfl <| .cons rfl (SR.lower 0 (r_buildSlice [] (e := tInt) (mc := 0) rfl rfl rfl ok38 rfl rfl rfl)) rfl rfl rfl ?_
        refine DT.eq [(110, _), (109, _), (108, _), (107, _), (0, _), (2, _), (4, _), (5, _), (63, _), (105, _)] rfl ?_
        obtain ⟨x165, hx165, h1⟩ := bindE h1
        refine .cons rfl (r_callM [] rfl rfl rfl Try.func53 rfl rfl (fun us0 _ => (W53 hx165).toU (us0 ++ [])) (.io rfl (.lend rfl .nil)) rfl) rfl rfl rfl ?_
        obtain ⟨x166, hx166, h1⟩ := bindE h1
        refine .cons rfl (r_index_own rfl rfl rfl rfl rfl ok24 (idx_nn hx166) (idx_lt hx166)) rfl rfl rfl <| .cons rfl (r_field rfl rfl rfl (sub_app rfl (sub_e (idx_get hx166))) ok72 rfl rfl) rfl rfl rfl <| .cons rfl (r_store [] rfl rfl rfl rfl rfl rfl rfl (sub_app (sub_app rfl (sub_e (idx_get hx166))) rfl) ok3 rfl rfl rfl (repl_app (sub_app rfl (sub_e (idx_get hx166))) rfl (repl_app rfl (repl_e (idx_get hx166)) rfl))) rfl rfl rfl <| .nil rfl ?_
        obtain rfl := Option.some.inj h1
        exact ⟨rfl, rfl, rfl, trivial⟩
       ·refine AW.seq (AW.reg hn hfx rfl ?_)
        refine .cons rfl (r_cmp rfl rfl rfl rfl rfl) <| .cons rfl (r_copy (.inr rfl) rfl rfl) <| .nil ?_
        refine AW.sub [(0, _), (2, _), (4, _), (5, _), (114, _)] ⟨rfl, rfl, rfl, rfl, rfl, trivial⟩ ?_
        refine AW.ifP rfl h1 (fun h1 => ?_) (fun h1 => ?_)
        ·refine AW.sub [(0, _), (2, _), (4, _), (5, _)] ⟨rfl, rfl, rfl, rfl, trivial⟩ ?_
         obtain ⟨z177, h2, h1⟩ := bindE h1
         refine AW.joinJ [(2, _)] ⟨rfl, trivial⟩ [(0, .val (.ptr ty48) 1 z177.1), (5, .val (.ptr ty26) 3 z177.2)] ?_ ?_
         ·refine AW.block ?_
          refine AW.loopP h2 [(2, _), (4, _)] ⟨rfl, rfl, trivial⟩ (fun s182 => [(0, .val (.ptr ty48) 1 s182.1), (5, .val (.ptr ty26) 3 s182.2)]) ⟨rfl, rfl, rfl, rfl, trivial⟩ fun s182 z186 h3 => ?_
          refine AW.seq ?_
          refine AW.seq (AW.draw hmix hn hfx rfl rfl ?_)
          refine .cons rfl (r_field rfl rfl rfl rfl ok26 rfl rfl) rfl rfl rfl <| .cons rfl (r_load_ref rfl rfl rfl rfl ok24) rfl rfl rfl <| .cons rfl (r_len_own rfl rfl rfl rfl ok24 rfl) rfl rfl rfl <| .cons rfl (r_aliasF rfl) rfl rfl rfl ?_
          refine DT.eq [(119, _), (118, _), (117, _), (116, _), (0, _), (5, _), (2, _), (4, _)] rfl ?_
          obtain ⟨x183, hx183, h3⟩ := bindE h3
          refine .cons rfl (r_callM [] rfl rfl rfl Try.func54 rfl rfl (fun us0 _ => (W54 hx183).toU (us0 ++ [])) (.io rfl (.lend rfl .nil)) rfl) rfl rfl rfl <| .cons rfl (r_arith rfl rfl rfl rfl rfl) rfl rfl rfl <| .cons rfl (r_cmp rfl rfl rfl rfl rfl) rfl rfl rfl <| .nil rfl ?_
          refine AW.sub [(0, _), (2, _), (4, _), (5, _), (122, _)] ⟨rfl, rfl, rfl, rfl, rfl, trivial⟩ ?_
          refine AW.ifP rfl h3 (fun h3 => ?_) (fun h3 => ?_)
          ·refine AW.skip ?_
           refine AW.block ?_
           refine AW.draw hmix hn hfx rfl rfl ?_
           refine .cons rfl (r_field rfl rfl rfl rfl ok26 rfl rfl) rfl rfl rfl <| .cons rfl (r_load_ref rfl rfl rfl rfl ok24) rfl rfl rfl <| .cons rfl (r_copy (.inl rfl) rfl rfl) rfl rfl rfl ?_
           obtain ⟨x184, hx184, h3⟩ := bindE h3
           refine .cons rfl (r_mkS rfl rfl rfl ok38 rfl hx184) rfl rfl rfl ?_
           refine DT.eq [(126, _), (125, _), (124, _), (123, _), (0, _), (2, _), (4, _), (5, _), (122, _)] rfl ?_
           refine .cons rfl (r_build [] rfl rfl rfl ok72 ⟨_, _, rfl⟩ rfl rfl (mc := 1)) rfl rfl rfl <| .cons rfl (r_buildSlice [] (e := ty72) (mc := 1) rfl rfl rfl ok24 rfl rfl rfl) rfl rfl rfl ?_
           obtain ⟨x185, hx185, h3⟩ := bindE h3
           refine .cons rfl (r_append [] rfl rfl rfl ok24 rfl (mr := 1) rfl rfl (app_len hx185) (app_eq hx185)) rfl rfl rfl <| .cons rfl (r_field rfl rfl rfl rfl ok26h0 rfl rfl) rfl rfl rfl ?_
           refine DT.eq [(130, _), (129, _), (5, _), (125, _), (0, _), (2, _), (4, _), (122, _)] rfl ?_
           refine .cons rfl (r_store [] rfl rfl rfl rfl rfl rfl rfl rfl ok24 rfl rfl rfl rfl) rfl rfl rfl <| .nil rfl ?_
           exact ⟨_, (Option.some.inj h3).symm, ⟨rfl, rfl, rfl, rfl, trivial⟩⟩
          ·refine AW.exit ?_
           refine ⟨_, (Option.some.inj h3).symm, fun hz => ?_⟩
           subst hz
           exact ⟨rfl, rfl, rfl, trivial⟩
         ·intro l1 hl1
          obtain rfl := Option.some.inj h1
          exact Sub.via hl1 ⟨rfl, rfl, rfl, trivial⟩
        ·refine AW.skip ?_
         obtain rfl := Option.some.inj h1
         exact ⟨rfl, rfl, rfl, trivial⟩
   ·intro l1 hl1
    refine AW.weaken hl1.sub ?_
    refine AW.seq (AW.reg hn hfx rfl ?_)
    refine .cons rfl (r_load_ref rfl rfl rfl rfl ok26) <| .cons rfl (r_store [131] rfl rfl rfl rfl rfl rfl rfl rfl ok26 rfl rfl rfl rfl) <| .nil ?_
    refine AW.sub [(0, _), (2, _)] ⟨rfl, rfl, trivial⟩ ?_
    refine AW.ret ?_
    obtain rfl := Option.some.inj h0
    exact ⟨_, .cell rfl ok26 .nil, .inr ⟨nofun, rfl⟩, trivial⟩

theorem W23  {c_ : ((List Int) × (Int × (Int × Unit)))} {r : ((Int × ((List (Int × ((List Int) × Unit))) × Unit)) × ((List Int) × (Int × (Int × Unit))))} (h0 : spec_l1Cur_algebra31 c_ = some r) : Meets Try.prog 23 [⟨(.ptr ty48), 1, c_⟩] [⟨ty26, 2, r.1⟩] [⟨(.ptr ty48), 1, r.2⟩] := by
 refine Meets.of_body (fn := Try.f23) Try.func23 rfl rfl rfl fun c hn hfx => ?_
 unfold spec_l1Cur_algebra31 at h0
 refine AW.seq (AW.reg hn hfx rfl ?_)
 refine .cons rfl (r_alloc rfl ok26 rfl) <| .nil ?_
 refine AW.sub [(0, _), (2, _)] ⟨rfl, rfl, trivial⟩ ?_
 refine AW.seq ?_
 refine AW.seq (AW.reg hn hfx rfl ?_)
 refine .cons rfl (r_alias rfl rfl) ?_
 obtain ⟨x1, hx1, h0⟩ := bindE h0
 refine .cons rfl (r_callM [] rfl rfl rfl Try.func27 rfl rfl (fun us0 _ => (W27 hx1).toU (us0 ++ [])) (.io rfl (.lend rfl .nil)) rfl) <| .nil ?_
 refine AW.sub [(0, _), (2, _), (6, _)] ⟨rfl, rfl, rfl, trivial⟩ ?_
 refine AW.ifP rfl h0 (fun h0 => ?_) (fun h0 => ?_)
 ·refine AW.seq (AW.reg hn hfx rfl ?_)
  refine .cons rfl (r_alias rfl rfl) ?_
  obtain ⟨x2, hx2, h0⟩ := bindE h0
  refine .cons rfl (r_callM [] rfl rfl rfl Try.func51 rfl rfl (fun us0 _ => (W51 hx2).toU (us0 ++ [])) (.io rfl .nil) rfl) <| .cons rfl (r_store [] rfl rfl rfl rfl rfl rfl rfl rfl ok26 rfl rfl rfl rfl) <| .nil ?_
  refine AW.sub [(0, _), (2, _)] ⟨rfl, rfl, trivial⟩ ?_
  refine AW.ret ?_
  obtain rfl := Option.some.inj h0
  exact ⟨_, .cell rfl ok26 .nil, .inr ⟨nofun, rfl⟩, trivial⟩
 ·refine AW.skip ?_
  refine AW.seq (AW.reg hn hfx rfl ?_)
  refine .cons rfl (r_alias rfl rfl) <| .cons rfl (r_buildSlice [] (e := tInt) (mc := 0) rfl rfl rfl ok38 rfl rfl rfl) ?_
  refine RT.lower 10 0 rfl ?_
  obtain ⟨x3, hx3, h0⟩ := bindE h0
  refine .cons rfl (r_callM [] rfl rfl rfl Try.func53 rfl rfl (fun us0 _ => (W53 hx3).toU (us0 ++ [])) (.io rfl (.lend rfl .nil)) rfl) ?_
  obtain ⟨x4, hx4, h0⟩ := bindE h0
  refine .cons rfl (r_call rfl rfl rfl Try.func52 rfl rfl (W52 hx4) rfl) ?_
  refine RT.sub [(0, _), (2, _), (12, _)] ⟨rfl, rfl, rfl, trivial⟩ ?_
  refine .cons rfl (r_alloc rfl ok26 rfl) <| .cons rfl (r_store [] rfl rfl rfl rfl rfl rfl rfl rfl ok26 rfl rfl rfl rfl) <| .nil ?_
  refine AW.sub [(0, _), (2, _), (3, _)] ⟨rfl, rfl, rfl, trivial⟩ ?_
  refine AW.seq ?_
  refine AW.seq (AW.reg hn hfx rfl ?_)
  refine .cons rfl (r_alias rfl rfl) <| .cons rfl (r_field rfl rfl rfl rfl ok26 rfl rfl) <| .cons rfl (r_load rfl rfl rfl rfl ok3 rfl) ?_
  obtain ⟨x5, hx5, h0⟩ := bindE h0
  refine .cons rfl (r_callM [] rfl rfl rfl Try.func24 rfl rfl (fun us0 _ => (W24 hx5).toU (us0 ++ [])) (.io rfl (.lend rfl .nil)) rfl) ?_
  refine RT.sub [(0, _), (2, _), (3, _), (16, _)] ⟨rfl, rfl, rfl, rfl, trivial⟩ ?_
  refine .cons rfl (r_assign [] (.inl rfl) rfl rfl) <| .nil ?_
  refine AW.sub [(0, _), (2, _), (3, _), (4, _)] ⟨rfl, rfl, rfl, rfl, trivial⟩ ?_
  refine AW.seq (AW.reg hn hfx rfl ?_)
  refine .cons rfl (r_alias rfl rfl) <| .cons rfl (r_field rfl rfl rfl rfl ok26 rfl rfl) <| .cons rfl (r_load rfl rfl rfl rfl ok3 rfl) ?_
  obtain ⟨x6, hx6, h0⟩ := bindE h0
  refine .cons rfl (r_call rfl rfl rfl Try.func26 rfl rfl (W26 hx6) rfl) <| .nil ?_
  refine AW.sub [(0, _), (2, _), (3, _), (4, _), (20, _)] ⟨rfl, rfl, rfl, rfl, rfl, trivial⟩ ?_
  refine AW.ifP rfl h0 (fun h0 => ?_) (fun h0 => ?_)
  ·refine AW.seq (AW.reg hn hfx rfl ?_)
   refine .cons rfl (r_load_ref rfl rfl rfl rfl ok26) <| .cons rfl (r_alias rfl rfl) ?_
   obtain ⟨x7, hx7, h0⟩ := bindE h0
   refine .cons rfl (r_call rfl rfl rfl Try.func28 rfl rfl (W28 hx7) rfl) <| .cons rfl (r_store [] rfl rfl rfl rfl rfl rfl rfl rfl ok26 rfl rfl rfl rfl) <| .nil ?_
   refine AW.sub [(0, _), (2, _)] ⟨rfl, rfl, trivial⟩ ?_
   refine AW.ret ?_
   obtain rfl := Option.some.inj h0
   exact ⟨_, .cell rfl ok26 .nil, .inr ⟨nofun, rfl⟩, trivial⟩
  ·refine AW.skip ?_
   refine AW.seq (AW.reg hn hfx rfl ?_)
   refine .cons rfl (r_load_ref rfl rfl rfl rfl ok26) <| .cons rfl (r_store [24] rfl rfl rfl rfl rfl rfl rfl rfl ok26 rfl rfl rfl rfl) <| .nil ?_
   refine AW.sub [(0, _), (2, _)] ⟨rfl, rfl, trivial⟩ ?_
   refine AW.ret ?_
   obtain rfl := Option.some.inj h0
   exact ⟨_, .cell rfl ok26 .nil, .inr ⟨nofun, rfl⟩, trivial⟩

theorem W56  {n : Int} {op : (Int × ((List Int) × Unit))} {r : Bool} (h0 : spec_l2Op n op = some r) : Meets Try.prog 56 [⟨tInt, 0, n⟩, ⟨ty72, 0, op⟩] [⟨.bool, 0, r⟩] [⟨tInt, 0, n⟩, ⟨ty72, 0, op⟩] := by
 refine Meets.of_body (fn := Try.f56) Try.func56 rfl rfl rfl fun c hn hfx => ?_
 unfold spec_l2Op at h0
 refine AW.seq (AW.reg hn hfx rfl ?_)
 refine .cons rfl (r_box [] rfl rfl rfl) <| .cons rfl (r_copy (.inr rfl) rfl rfl) <| .nil ?_
 refine AW.sub [(0, _), (3, _)] ⟨rfl, rfl, trivial⟩ ?_
 refine AW.seq ?_
 obtain ⟨z4, h1, h0⟩ := bindE h0
 refine AW.seq (AW.joinJ [(0, _), (3, _)] ⟨rfl, rfl, trivial⟩ [(19, .val .bool 0 z4)] ?_ ?_)
 ·refine AW.draw hmix hn hfx rfl rfl ?_
  refine .cons rfl (r_field rfl rfl rfl rfl ok72 rfl rfl) rfl rfl rfl <| .cons rfl (r_load rfl rfl rfl rfl ok3 rfl) rfl rfl rfl ?_
  obtain ⟨x5, hx5, h1⟩ := bindE h1
  refine .cons rfl (r_call rfl rfl rfl Try.func55 rfl rfl (W55 hx5) rfl) rfl rfl rfl <| .cons rfl (r_not rfl rfl rfl) rfl rfl rfl ?_
  refine DT.eq [(9, _), (8, _), (7, _), (6, _), (0, _), (3, _)] rfl ?_
  refine .ifP (.inl rfl) rfl rfl (fun _ => rfl) rfl h1 (fun h1 => ?_) (fun h1 => ?_)
  ·refine .pass (.inl ⟨_, _, _, rfl, rfl, rfl⟩) rfl rfl <| .pass (.inl ⟨_, _, _, rfl, rfl, rfl⟩) rfl rfl <| .pass (.inl ⟨_, _, _, rfl, rfl, rfl⟩) rfl rfl ?_
   refine DT.eq [(13, _), (12, _), (11, _), (10, _), (9, _), (8, _), (7, _), (6, _), (0, _), (3, _)] rfl ?_
   refine .pass (.inl ⟨_, _, _, rfl, rfl, rfl⟩) rfl rfl <| .pass (.inl ⟨_, _, _, rfl, rfl, rfl⟩) rfl rfl <| .pass (.inl ⟨_, _, _, rfl, rfl, rfl⟩) rfl rfl <| .pass (.inl ⟨_, _, _, rfl, rfl, rfl⟩) rfl rfl ?_
   refine DT.eq [(17, _), (16, _), (15, _), (14, _), (13, _), (12, _), (11, _), (10, _), (9, _), (8, _), (7, _), (6, _), (0, _), (3, _)] rfl ?_
   refine .pass (.inl ⟨_, _, _, rfl, rfl, rfl⟩) rfl rfl <| .cons rfl (r_pick_true rfl rfl rfl rfl) rfl rfl rfl <| .nil rfl ?_
   obtain rfl := Option.some.inj h1
   exact ⟨rfl, rfl, rfl, trivial⟩
  ·refine .cons (.inl ⟨_, _, _, rfl, rfl, rfl⟩) (r_field rfl rfl rfl rfl ok72 rfl rfl) rfl rfl rfl <| .cons (.inl ⟨_, _, _, rfl, rfl, rfl⟩) (r_load rfl rfl rfl rfl ok38 rfl) rfl rfl rfl <| .cons (.inl ⟨_, _, _, rfl, rfl, rfl⟩) (r_len rfl rfl ok38 rfl) rfl rfl rfl ?_
   refine DT.eq [(13, _), (12, _), (11, _), (10, _), (9, _), (8, _), (7, _), (6, _), (0, _), (3, _)] rfl ?_
   refine .cons (.inl ⟨_, _, _, rfl, rfl, rfl⟩) (r_copy (.inl rfl) rfl rfl) rfl rfl rfl <| .cons (.inl ⟨_, _, _, rfl, rfl, rfl⟩) (r_field rfl rfl rfl rfl ok72 rfl rfl) rfl rfl rfl <| .cons (.inl ⟨_, _, _, rfl, rfl, rfl⟩) (r_load rfl rfl rfl rfl ok3 rfl) rfl rfl rfl ?_
   obtain ⟨x6, hx6, h1⟩ := bindE h1
   refine .cons (.inl ⟨_, _, _, rfl, rfl, rfl⟩) (r_call rfl rfl rfl Try.func81 rfl rfl (W81 hx6) rfl) rfl rfl rfl ?_
   refine DT.eq [(17, _), (16, _), (15, _), (14, _), (13, _), (12, _), (11, _), (10, _), (9, _), (8, _), (7, _), (6, _), (0, _), (3, _)] rfl ?_
   refine .cons (.inl ⟨_, _, _, rfl, rfl, rfl⟩) (r_cmp rfl rfl rfl rfl rfl) rfl rfl rfl <| .cons rfl (r_pick_false rfl rfl rfl rfl) rfl rfl rfl <| .nil rfl ?_
   obtain rfl := Option.some.inj h1
   exact ⟨rfl, rfl, rfl, trivial⟩
 ·intro l1 hl1
  refine AW.weaken hl1.sub ?_
  refine AW.ifP rfl h0 (fun h0 => ?_) (fun h0 => ?_)
  ·refine AW.seq (AW.reg hn hfx rfl ?_)
   refine .cons rfl (r_copy (.inr rfl) rfl rfl) <| .nil ?_
   refine AW.sub [(4, _)] ⟨rfl, trivial⟩ ?_
   refine AW.ret ?_
   obtain rfl := Option.some.inj h0
   exact ⟨_, .tmp rfl rfl .nil, .inl ⟨rfl, rfl⟩, .inl ⟨rfl, rfl⟩, trivial⟩
  ·refine AW.skip ?_
   refine AW.seq ?_
   refine AW.seq (AW.reg hn hfx rfl ?_)
   refine .cons rfl (r_copy (.inr rfl) rfl rfl) <| .nil ?_
   refine AW.sub [(0, _), (3, _), (5, _)] ⟨rfl, rfl, rfl, trivial⟩ ?_
   obtain ⟨z16, h1, h0⟩ := bindE h0
   refine AW.joinX z16 [] trivial (fun s15 => []) ?_ ?_
   ·refine AW.block ?_
    refine AW.loopP h1 [(0, _), (3, _)] ⟨rfl, rfl, trivial⟩ (fun s20 => [(5, .val tInt 0 s20)]) ⟨rfl, rfl, rfl, trivial⟩ fun s20 z23 h2 => ?_
    refine AW.seq ?_
    refine AW.seq (AW.reg hn hfx rfl ?_)
    refine .cons rfl (r_copy (.inl rfl) rfl rfl) <| .cons rfl (r_field rfl rfl rfl rfl ok72 rfl rfl) <| .cons rfl (r_load rfl rfl rfl rfl ok38 rfl) <| .cons rfl (r_len rfl rfl ok38 rfl) ?_
    refine RT.sub [(0, _), (3, _), (5, _), (20, _), (23, _)] ⟨rfl, rfl, rfl, rfl, rfl, trivial⟩ ?_
    refine .cons rfl (r_cmp rfl rfl rfl rfl rfl) <| .nil ?_
    refine AW.sub [(0, _), (3, _), (5, _), (24, _)] ⟨rfl, rfl, rfl, rfl, trivial⟩ ?_
    refine AW.ifP rfl h2 (fun h2 => ?_) (fun h2 => ?_)
    ·refine AW.skip ?_
     refine AW.seq (AW.block ?_)
     refine AW.seq (AW.reg hn hfx rfl ?_)
     refine .cons rfl (r_field rfl rfl rfl rfl ok72 rfl rfl) <| .cons rfl (r_load rfl rfl rfl rfl ok38 rfl) <| .cons rfl (r_copy (.inl rfl) rfl rfl) ?_
     obtain ⟨x21, hx21, h2⟩ := bindE h2
     refine .cons rfl (r_index_shared rfl rfl rfl ok38 (idx_nn hx21) (idx_get hx21)) ?_
     refine RT.sub [(0, _), (3, _), (5, _), (30, _)] ⟨rfl, rfl, rfl, rfl, trivial⟩ ?_
     refine .cons rfl (r_load_shared rfl rfl ok3) <| .cons rfl (r_copy (.inl rfl) rfl rfl) <| .cons rfl (r_arith rfl rfl rfl rfl rfl) ?_
     obtain ⟨x22, hx22, h2⟩ := bindE h2
     refine .cons rfl (r_call rfl rfl rfl Try.func55 rfl rfl (W55 hx22) rfl) ?_
     refine RT.sub [(0, _), (3, _), (5, _), (34, _)] ⟨rfl, rfl, rfl, rfl, trivial⟩ ?_
     refine .cons rfl (r_not rfl rfl rfl) <| .nil ?_
     refine AW.sub [(0, _), (3, _), (5, _), (35, _)] ⟨rfl, rfl, rfl, rfl, trivial⟩ ?_
     refine AW.ifP rfl h2 (fun h2 => ?_) (fun h2 => ?_)
     ·refine AW.seq (AW.reg hn hfx rfl ?_)
      refine .cons rfl (r_copy (.inr rfl) rfl rfl) <| .nil ?_
      refine AW.sub [(4, _)] ⟨rfl, trivial⟩ ?_
      refine AW.ret ?_
      refine ⟨_, (Option.some.inj h2).symm, fun hz => ?_⟩
      subst hz
      obtain rfl := Option.some.inj h0
      exact ⟨_, .tmp rfl rfl .nil, .inl ⟨rfl, rfl⟩, .inl ⟨rfl, rfl⟩, trivial⟩
     ·refine AW.skip ?_
      refine AW.reg hn hfx rfl ?_
      refine .cons rfl (r_copy (.inl rfl) rfl rfl) <| .cons rfl (r_arith rfl rfl rfl rfl rfl) <| .cons rfl (r_copy (.inr rfl) rfl rfl) <| .nil ?_
      exact ⟨_, (Option.some.inj h2).symm, ⟨rfl, rfl, rfl, trivial⟩⟩
    ·refine AW.exit ?_
     refine ⟨_, (Option.some.inj h2).symm, fun hz => ?_⟩
     subst hz
     exact ⟨_, rfl, trivial⟩
   ·rintro s15 rfl l1 hl1
    refine AW.weaken hl1.sub ?_
    refine AW.seq (AW.reg hn hfx rfl ?_)
    refine .cons rfl (r_copy (.inr rfl) rfl rfl) <| .nil ?_
    refine AW.sub [(4, _)] ⟨rfl, trivial⟩ ?_
    refine AW.ret ?_
    obtain rfl := Option.some.inj h0
    exact ⟨_, .tmp rfl rfl .nil, .inl ⟨rfl, rfl⟩, .inl ⟨rfl, rfl⟩, trivial⟩

theorem W25  {a : (Int × ((List (Int × ((List Int) × Unit))) × Unit))} {r : Bool} (h0 : spec_l2Good a = some r) : Meets Try.prog 25 [⟨ty26, 0, a⟩] [⟨.bool, 0, r⟩] [⟨ty26, 0, a⟩] := by
 refine Meets.of_body (fn := Try.f25) Try.func25 rfl rfl rfl fun c hn hfx => ?_
 unfold spec_l2Good at h0
 refine AW.seq (AW.reg hn hfx rfl ?_)
 refine .cons rfl (r_box [] rfl rfl rfl) <| .cons rfl (r_copy (.inr rfl) rfl rfl) <| .nil ?_
 refine AW.sub [(1, _)] ⟨rfl, trivial⟩ ?_
 refine AW.seq ?_
 obtain ⟨z3, h1, h0⟩ := bindE h0
 refine AW.seq (AW.joinJ [(1, _)] ⟨rfl, trivial⟩ [(13, .val .bool 0 z3)] ?_ ?_)
 ·refine AW.reg hn hfx rfl ?_
  refine .cons rfl (r_field rfl rfl rfl rfl ok26 rfl rfl) <| .cons rfl (r_load rfl rfl rfl rfl ok3 rfl) ?_
  obtain ⟨x4, hx4, h1⟩ := bindE h1
  refine .cons rfl (r_call rfl rfl rfl Try.func55 rfl rfl (W55 hx4) rfl) <| .cons rfl (r_not rfl rfl rfl) ?_
  refine RT.sub [(1, _), (7, _)] ⟨rfl, rfl, trivial⟩ ?_
  refine .ifP (.inl rfl) rfl rfl h1 (fun h1 => ?_) (fun h1 => ?_)
  ·refine .pass (.inl ⟨_, _, _, rfl, rfl, rfl⟩) <| .pass (.inl ⟨_, _, _, rfl, rfl, rfl⟩) <| .pass (.inl ⟨_, _, _, rfl, rfl, rfl⟩) ?_
   refine RT.sub [(1, _), (8, _), (11, _)] ⟨rfl, rfl, rfl, trivial⟩ ?_
   refine .pass (.inl ⟨_, _, _, rfl, rfl, rfl⟩) <| .cons rfl (r_pick_true rfl rfl rfl rfl) <| .nil ?_
   obtain rfl := Option.some.inj h1
   exact ⟨rfl, rfl, trivial⟩
  ·refine .cons (.inl ⟨_, _, _, rfl, rfl, rfl⟩) (r_field rfl rfl rfl rfl ok26 rfl rfl) <| .cons (.inl ⟨_, _, _, rfl, rfl, rfl⟩) (r_load rfl rfl rfl rfl ok24 rfl) <| .cons (.inl ⟨_, _, _, rfl, rfl, rfl⟩) (r_len rfl rfl ok24 rfl) ?_
   refine RT.sub [(1, _), (8, _), (11, _)] ⟨rfl, rfl, rfl, trivial⟩ ?_
   refine .cons (.inl ⟨_, _, _, rfl, rfl, rfl⟩) (r_cmp rfl rfl rfl rfl rfl) <| .cons rfl (r_pick_false rfl rfl rfl rfl) <| .nil ?_
   obtain rfl := Option.some.inj h1
   exact ⟨rfl, rfl, trivial⟩
 ·intro l1 hl1
  refine AW.weaken hl1.sub ?_
  refine AW.ifP rfl h0 (fun h0 => ?_) (fun h0 => ?_)
  ·refine AW.seq (AW.reg hn hfx rfl ?_)
   refine .cons rfl (r_copy (.inr rfl) rfl rfl) <| .nil ?_
   refine AW.sub [(2, _)] ⟨rfl, trivial⟩ ?_
   refine AW.ret ?_
   obtain rfl := Option.some.inj h0
   exact ⟨_, .tmp rfl rfl .nil, .inl ⟨rfl, rfl⟩, trivial⟩
  ·refine AW.skip ?_
   refine AW.seq ?_
   refine AW.seq (AW.reg hn hfx rfl ?_)
   refine .cons rfl (r_copy (.inr rfl) rfl rfl) <| .nil ?_
   refine AW.sub [(1, _), (3, _)] ⟨rfl, rfl, trivial⟩ ?_
   obtain ⟨z14, h1, h0⟩ := bindE h0
   refine AW.joinX z14 [] trivial (fun s13 => []) ?_ ?_
   ·refine AW.block ?_
    refine AW.loopP h1 [(1, _)] ⟨rfl, trivial⟩ (fun s18 => [(3, .val tInt 0 s18)]) ⟨rfl, rfl, trivial⟩ fun s18 z21 h2 => ?_
    refine AW.seq ?_
    refine AW.seq (AW.reg hn hfx rfl ?_)
    refine .cons rfl (r_copy (.inl rfl) rfl rfl) <| .cons rfl (r_field rfl rfl rfl rfl ok26 rfl rfl) <| .cons rfl (r_load rfl rfl rfl rfl ok24 rfl) <| .cons rfl (r_len rfl rfl ok24 rfl) ?_
    refine RT.sub [(1, _), (3, _), (14, _), (17, _)] ⟨rfl, rfl, rfl, rfl, trivial⟩ ?_
    refine .cons rfl (r_cmp rfl rfl rfl rfl rfl) <| .nil ?_
    refine AW.sub [(1, _), (3, _), (18, _)] ⟨rfl, rfl, rfl, trivial⟩ ?_
    refine AW.ifP rfl h2 (fun h2 => ?_) (fun h2 => ?_)
    ·refine AW.skip ?_
     refine AW.seq (AW.block ?_)
     refine AW.seq (AW.draw hmix hn hfx rfl rfl ?_)
     refine .cons rfl (r_field rfl rfl rfl rfl ok26 rfl rfl) rfl rfl rfl <| .cons rfl (r_load rfl rfl rfl rfl ok3 rfl) rfl rfl rfl <| .cons rfl (r_field rfl rfl rfl rfl ok26 rfl rfl) rfl rfl rfl <| .cons rfl (r_load rfl rfl rfl rfl ok24 rfl) rfl rfl rfl ?_
     refine DT.eq [(24, _), (23, _), (22, _), (21, _), (1, _), (3, _), (18, _)] rfl ?_
     refine .cons rfl (r_copy (.inl rfl) rfl rfl) rfl rfl rfl ?_
     obtain ⟨x19, hx19, h2⟩ := bindE h2
     refine .cons rfl (r_index_shared rfl rfl rfl ok24 (idx_nn hx19) (idx_get hx19)) rfl rfl rfl <| .cons rfl (r_load_shared rfl rfl ok72) rfl rfl rfl ?_
     obtain ⟨x20, hx20, h2⟩ := bindE h2
     refine .cons rfl (r_call rfl rfl rfl Try.func56 rfl rfl (W56 hx20) rfl) rfl rfl rfl ?_
     refine DT.eq [(28, _), (27, _), (26, _), (25, _), (24, _), (23, _), (22, _), (21, _), (1, _), (3, _), (18, _)] rfl ?_
     refine .cons rfl (r_not rfl rfl rfl) rfl rfl rfl <| .nil rfl ?_
     refine AW.sub [(1, _), (3, _), (29, _)] ⟨rfl, rfl, rfl, trivial⟩ ?_
     refine AW.ifP rfl h2 (fun h2 => ?_) (fun h2 => ?_)
     ·refine AW.seq (AW.reg hn hfx rfl ?_)
      refine .cons rfl (r_copy (.inr rfl) rfl rfl) <| .nil ?_
      refine AW.sub [(2, _)] ⟨rfl, trivial⟩ ?_
      refine AW.ret ?_
      refine ⟨_, (Option.some.inj h2).symm, fun hz => ?_⟩
      subst hz
      obtain rfl := Option.some.inj h0
      exact ⟨_, .tmp rfl rfl .nil, .inl ⟨rfl, rfl⟩, trivial⟩
     ·refine AW.skip ?_
      refine AW.reg hn hfx rfl ?_
      refine .cons rfl (r_copy (.inl rfl) rfl rfl) <| .cons rfl (r_arith rfl rfl rfl rfl rfl) <| .cons rfl (r_copy (.inr rfl) rfl rfl) <| .nil ?_
      exact ⟨_, (Option.some.inj h2).symm, ⟨rfl, rfl, trivial⟩⟩
    ·refine AW.exit ?_
     refine ⟨_, (Option.some.inj h2).symm, fun hz => ?_⟩
     subst hz
     exact ⟨_, rfl, trivial⟩
   ·rintro s13 rfl l1 hl1
    refine AW.weaken hl1.sub ?_
    refine AW.seq (AW.reg hn hfx rfl ?_)
    refine .cons rfl (r_copy (.inr rfl) rfl rfl) <| .nil ?_
    refine AW.sub [(2, _)] ⟨rfl, trivial⟩ ?_
    refine AW.ret ?_
    obtain rfl := Option.some.inj h0
    exact ⟨_, .tmp rfl rfl .nil, .inl ⟨rfl, rfl⟩, trivial⟩

theorem W5  {code : (List Int)} {r : ((Int × ((List (Int × ((List Int) × Unit))) × Unit)) × (Int × ((List (Int × ((List Int) × Unit))) × Unit)))} (h0 : spec_DrawHaveSameForm code = some r) : Meets Try.prog 5 [⟨ty22, 0, code⟩] [⟨ty26, 2, r.1⟩, ⟨ty26, 2, r.2⟩] [⟨ty22, 0, code⟩] := by
 refine Meets.of_body (fn := Try.f5) Try.func5 rfl rfl rfl fun c hn hfx => ?_
 unfold spec_DrawHaveSameForm at h0
 refine AW.seq (AW.reg hn hfx rfl ?_)
 refine .cons rfl (r_alloc rfl ok26 rfl) <| .cons rfl (r_alloc rfl ok26 rfl) <| .nil ?_
 refine AW.sub [(0, _), (2, _), (3, _)] ⟨rfl, rfl, rfl, trivial⟩ ?_
 refine AW.seq (AW.reg hn hfx rfl ?_)
 refine .cons rfl (r_copy (.inl rfl) rfl rfl) <| .cons rfl (r_build [] rfl rfl rfl ok48 ⟨_, _, rfl⟩ rfl rfl (mc := 0)) <| .cons rfl (r_box [] rfl rfl rfl) <| .cons rfl (r_assign [] (.inl rfl) rfl rfl) <| .nil ?_
 refine AW.sub [(2, _), (3, _), (4, _)] ⟨rfl, rfl, rfl, trivial⟩ ?_
 refine AW.seq (AW.reg hn hfx rfl ?_)
 refine .cons rfl (r_alias rfl rfl) ?_
 obtain ⟨x1, hx1, h0⟩ := bindE h0
 refine .cons rfl (r_callM [] rfl rfl rfl Try.func23 rfl rfl (fun us0 _ => (W23 hx1).toU (us0 ++ [])) (.io rfl .nil) rfl) <| .cons rfl (r_alloc rfl ok26 rfl) <| .cons rfl (r_store [] rfl rfl rfl rfl rfl rfl rfl rfl ok26 rfl rfl rfl rfl) <| .nil ?_
 refine AW.sub [(2, _), (3, _), (4, _), (5, _)] ⟨rfl, rfl, rfl, rfl, trivial⟩ ?_
 refine AW.seq ?_
 refine AW.seq (AW.reg hn hfx rfl ?_)
 refine .cons rfl (r_alias rfl rfl) <| .cons rfl (r_field rfl rfl rfl rfl ok26 rfl rfl) <| .cons rfl (r_load rfl rfl rfl rfl ok3 rfl) ?_
 obtain ⟨x2, hx2, h0⟩ := bindE h0
 refine .cons rfl (r_callM [] rfl rfl rfl Try.func24 rfl rfl (fun us0 _ => (W24 hx2).toU (us0 ++ [])) (.io rfl (.lend rfl .nil)) rfl) ?_
 refine RT.sub [(2, _), (3, _), (4, _), (5, _), (15, _)] ⟨rfl, rfl, rfl, rfl, rfl, trivial⟩ ?_
 refine .cons rfl (r_assign [] (.inl rfl) rfl rfl) <| .nil ?_
 refine AW.sub [(2, _), (3, _), (4, _), (5, _), (6, _)] ⟨rfl, rfl, rfl, rfl, rfl, trivial⟩ ?_
 obtain ⟨z7, h1, h0⟩ := bindE h0
 refine AW.seq (AW.joinJ [(2, _), (3, _), (5, _), (6, _)] ⟨rfl, rfl, rfl, rfl, trivial⟩ [(4, .val (.ptr ty48) 1 z7.1), (27, .val .bool 0 z7.2)] ?_ ?_)
 ·refine AW.reg hn hfx rfl ?_
  refine .cons rfl (r_load_ref rfl rfl rfl rfl ok26) ?_
  obtain ⟨x8, hx8, h1⟩ := bindE h1
  refine .cons rfl (r_call rfl rfl rfl Try.func25 rfl rfl (W25 hx8) rfl) ?_
  refine .ifP (.inl rfl) rfl rfl h1 (fun h1 => ?_) (fun h1 => ?_)
  ·refine .cons (.inl ⟨_, _, _, rfl, rfl, rfl⟩) (r_alias rfl rfl) ?_
   refine RT.sub [(2, _), (3, _), (4, _), (5, _), (6, _), (18, _), (19, _)] ⟨rfl, rfl, rfl, rfl, rfl, rfl, rfl, trivial⟩ ?_
   refine .cons (.inl ⟨_, _, _, rfl, rfl, rfl⟩) (r_field rfl rfl rfl rfl ok26 rfl rfl) <| .cons (.inl ⟨_, _, _, rfl, rfl, rfl⟩) (r_load rfl rfl rfl rfl ok3 rfl) ?_
   obtain ⟨x9, hx9, h1⟩ := bindE h1
   refine .cons (.inl ⟨_, _, _, rfl, rfl, rfl⟩) (r_call rfl rfl rfl Try.func26 rfl rfl (W26 hx9) rfl) <| .cons rfl (r_pick_true rfl rfl rfl rfl) ?_
   refine RT.sub [(2, _), (3, _), (4, _), (5, _), (6, _), (23, _)] ⟨rfl, rfl, rfl, rfl, rfl, rfl, trivial⟩ ?_
   refine .ifP (.inl rfl) rfl rfl h1 (fun h1 => ?_) (fun h1 => ?_)
   ·refine .cons (.inl ⟨_, _, _, rfl, rfl, rfl⟩) (r_alias rfl rfl) ?_
    obtain ⟨x10, hx10, h1⟩ := bindE h1
    refine .cons (.inl ⟨_, _, _, rfl, rfl, rfl⟩) (r_callM [] rfl rfl rfl Try.func27 rfl rfl (fun us0 _ => (W27 hx10).toU (us0 ++ [])) (.io rfl (.lend rfl .nil)) rfl) <| .cons rfl (r_pick_true rfl rfl rfl rfl) <| .nil ?_
    obtain rfl := Option.some.inj h1
    exact ⟨rfl, rfl, rfl, rfl, rfl, rfl, trivial⟩
   ·refine .pass (.inl ⟨_, _, _, rfl, rfl, rfl⟩) <| .pass (.inl ⟨_, _, _, rfl, rfl, rfl⟩) <| .cons rfl (r_pick_false rfl rfl rfl rfl) <| .nil ?_
    obtain rfl := Option.some.inj h1
    exact ⟨rfl, rfl, rfl, rfl, rfl, rfl, trivial⟩
  ·refine .pass (.inl ⟨_, _, _, rfl, rfl, rfl⟩) ?_
   refine RT.sub [(2, _), (3, _), (4, _), (5, _), (6, _), (18, _), (19, _)] ⟨rfl, rfl, rfl, rfl, rfl, rfl, rfl, trivial⟩ ?_
   refine .pass (.inl ⟨_, _, _, rfl, rfl, rfl⟩) <| .pass (.inl ⟨_, _, _, rfl, rfl, rfl⟩) <| .pass (.inl ⟨_, _, _, rfl, rfl, rfl⟩) <| .cons rfl (r_pick_false rfl rfl rfl rfl) ?_
   refine RT.sub [(2, _), (3, _), (4, _), (5, _), (6, _), (23, _)] ⟨rfl, rfl, rfl, rfl, rfl, rfl, trivial⟩ ?_
   refine .cons rfl (r_copy (.inl rfl) rfl rfl) <| .pass (.inl ⟨_, _, _, rfl, rfl, rfl⟩) <| .pass (.inl ⟨_, _, _, rfl, rfl, rfl⟩) <| .cons rfl (r_pick_false rfl rfl rfl rfl) <| .nil ?_
   obtain rfl := Option.some.inj h1
   exact ⟨rfl, rfl, rfl, rfl, rfl, rfl, trivial⟩
 ·intro l1 hl1
  refine AW.weaken hl1.sub ?_
  refine AW.ifP rfl h0 (fun h0 => ?_) (fun h0 => ?_)
  ·refine AW.seq (AW.draw hmix hn hfx rfl rfl ?_)
   refine .cons rfl (r_load_ref rfl rfl rfl rfl ok26) rfl rfl rfl <| .cons rfl (r_load_ref rfl rfl rfl rfl ok26) rfl rfl rfl <| .cons rfl (r_aliasF rfl) rfl rfl rfl ?_
   obtain ⟨x12, hx12, h0⟩ := bindE h0
   refine .cons rfl (r_call rfl rfl rfl Try.func28 rfl rfl (W28 hx12) rfl) rfl rfl rfl ?_
   refine DT.eq [(31, _), (30, _), (29, _), (28, _), (4, _), (27, _), (2, _), (3, _), (5, _), (6, _)] rfl ?_
   refine .cons rfl (r_store [28] rfl rfl rfl rfl rfl rfl rfl rfl ok26 rfl rfl rfl rfl) rfl rfl rfl <| .cons rfl (r_store [] rfl rfl rfl rfl rfl rfl rfl rfl ok26 rfl rfl rfl rfl) rfl rfl rfl <| .nil rfl ?_
   refine AW.sub [(2, _), (3, _)] ⟨rfl, rfl, trivial⟩ ?_
   refine AW.ret ?_
   obtain rfl := Option.some.inj h0
   exact ⟨_, .cell rfl ok26 (.cell rfl ok26 .nil), .inl ⟨rfl, rfl⟩, trivial⟩
  ·refine AW.skip ?_
   refine AW.seq (AW.draw hmix hn hfx rfl rfl ?_)
   refine .cons rfl (r_load_ref rfl rfl rfl rfl ok26) rfl rfl rfl <| .cons rfl (r_aliasF rfl) rfl rfl rfl ?_
   obtain ⟨x13, hx13, h0⟩ := bindE h0
   refine .cons rfl (r_callM [] rfl rfl rfl Try.func23 rfl rfl (fun us0 _ => (W23 hx13).toU (us0 ++ [])) (.io rfl .nil) rfl) rfl rfl rfl <| .cons rfl (r_store [32] rfl rfl rfl rfl rfl rfl rfl rfl ok26 rfl rfl rfl rfl) rfl rfl rfl ?_
   refine DT.eq [(2, _), (34, _), (4, _), (33, _), (27, _), (3, _), (6, _)] rfl ?_
   refine .cons rfl (r_store [] rfl rfl rfl rfl rfl rfl rfl rfl ok26 rfl rfl rfl rfl) rfl rfl rfl <| .nil rfl ?_
   refine AW.sub [(2, _), (3, _)] ⟨rfl, rfl, trivial⟩ ?_
   refine AW.ret ?_
   obtain rfl := Option.some.inj h0
   exact ⟨_, .cell rfl ok26 (.cell rfl ok26 .nil), .inl ⟨rfl, rfl⟩, trivial⟩

theorem W76  {list : (List Int)} {n : Int} {r : Bool} (h0 : impl_inSize list n = some r) : Meets Try.prog 76 [⟨ty38, 0, list⟩, ⟨tInt, 0, n⟩] [⟨.bool, 0, r⟩] [⟨ty38, 0, list⟩, ⟨tInt, 0, n⟩] := by
 refine Meets.of_body (fn := Try.f76) Try.func76 rfl rfl rfl fun c hn hfx => ?_
 unfold impl_inSize at h0
 refine AW.seq (AW.reg hn hfx rfl ?_)
 refine .cons rfl (r_copy (.inr rfl) rfl rfl) <| .nil ?_
 refine AW.sub [(0, _), (1, _)] ⟨rfl, rfl, trivial⟩ ?_
 refine AW.seq ?_
 refine AW.seq (AW.reg hn hfx rfl ?_)
 refine .cons rfl (r_copy (.inl rfl) rfl rfl) <| .cons rfl (r_len rfl rfl ok38 rfl) <| .cons rfl (r_copy (.inl rfl) rfl rfl) <| .nil ?_
 refine AW.sub [(1, _), (7, _), (8, _), (9, _)] ⟨rfl, rfl, rfl, rfl, trivial⟩ ?_
 obtain ⟨z13, h1, h0⟩ := bindE h0
 refine AW.joinX z13 [] trivial (fun s12 => []) ?_ ?_
 ·refine AW.block ?_
  refine AW.loopP h1 [(1, _), (7, _), (8, _)] ⟨rfl, rfl, rfl, trivial⟩ (fun s19 => [(9, .val tInt 0 s19)]) ⟨rfl, rfl, rfl, rfl, trivial⟩ fun s19 z24 h2 => ?_
  refine AW.seq (AW.reg hn hfx rfl ?_)
  refine .cons rfl (r_cmp rfl rfl rfl rfl rfl) <| .nil ?_
  refine AW.sub [(1, _), (7, _), (8, _), (9, _), (10, _)] ⟨rfl, rfl, rfl, rfl, rfl, trivial⟩ ?_
  refine AW.seq (AW.ifP rfl h2 (fun h2 => ?_) (fun h2 => ?_))
  ·refine AW.skip ?_
   refine AW.seq (AW.block ?_)
   refine AW.seq (AW.reg hn hfx rfl ?_)
   obtain ⟨x20, hx20, h2⟩ := bindE h2
   refine .cons rfl (r_index_shared rfl rfl rfl ok38 (idx_nn hx20) (idx_get hx20)) <| .cons rfl (r_load_shared rfl rfl ok3) <| .cons rfl (r_copy (.inr rfl) rfl rfl) <| .nil ?_
   refine AW.sub [(1, _), (6, _), (7, _), (8, _), (9, _)] ⟨rfl, rfl, rfl, rfl, rfl, trivial⟩ ?_
   obtain ⟨z22, h3, h2⟩ := bindE h2
   refine AW.seq (AW.joinJ [(1, _), (7, _), (8, _), (9, _)] ⟨rfl, rfl, rfl, rfl, trivial⟩ [(19, .val .bool 0 z22)] ?_ ?_)
   ·refine AW.reg hn hfx rfl ?_
    refine .cons rfl (r_copy (.inl rfl) rfl rfl) <| .cons rfl (r_cmp rfl rfl rfl rfl rfl) ?_
    refine .ifP (.inl rfl) rfl rfl h3 (fun h3 => ?_) (fun h3 => ?_)
    ·refine .pass (.inl ⟨_, _, _, rfl, rfl, rfl⟩) ?_
     refine RT.sub [(1, _), (7, _), (8, _), (9, _), (15, _), (16, _)] ⟨rfl, rfl, rfl, rfl, rfl, rfl, trivial⟩ ?_
     refine .pass (.inl ⟨_, _, _, rfl, rfl, rfl⟩) <| .pass (.inl ⟨_, _, _, rfl, rfl, rfl⟩) <| .cons rfl (r_pick_true rfl rfl rfl rfl) <| .nil ?_
     obtain rfl := Option.some.inj h3
     exact ⟨rfl, rfl, rfl, rfl, rfl, trivial⟩
    ·refine .cons (.inl ⟨_, _, _, rfl, rfl, rfl⟩) (r_copy (.inl rfl) rfl rfl) ?_
     refine RT.sub [(1, _), (7, _), (8, _), (9, _), (15, _), (16, _)] ⟨rfl, rfl, rfl, rfl, rfl, rfl, trivial⟩ ?_
     refine .cons (.inl ⟨_, _, _, rfl, rfl, rfl⟩) (r_copy (.inl rfl) rfl rfl) <| .cons (.inl ⟨_, _, _, rfl, rfl, rfl⟩) (r_cmp rfl rfl rfl rfl rfl) <| .cons rfl (r_pick_false rfl rfl rfl rfl) <| .nil ?_
     obtain rfl := Option.some.inj h3
     exact ⟨rfl, rfl, rfl, rfl, rfl, trivial⟩
   ·intro l1 hl1
    refine AW.weaken hl1.sub ?_
    refine AW.ifP rfl h2 (fun h2 => ?_) (fun h2 => ?_)
    ·refine AW.seq (AW.reg hn hfx rfl ?_)
     refine .cons rfl (r_copy (.inr rfl) rfl rfl) <| .nil ?_
     refine AW.sub [(4, _)] ⟨rfl, trivial⟩ ?_
     refine AW.ret ?_
     refine ⟨_, (Option.some.inj h2).symm, fun hz => ?_⟩
     subst hz
     obtain rfl := Option.some.inj h0
     exact ⟨_, .tmp rfl rfl .nil, .inl ⟨rfl, rfl⟩, .inl ⟨rfl, rfl⟩, trivial⟩
    ·refine AW.skip ?_
     refine AW.reg hn hfx rfl ?_
     refine .cons rfl (r_arith rfl rfl rfl rfl rfl) <| .cons rfl (r_copy (.inl rfl) rfl rfl) <| .nil ?_
     exact ⟨_, (Option.some.inj h2).symm, ⟨rfl, rfl, rfl, rfl, trivial⟩⟩
  ·refine AW.exit ?_
   refine ⟨_, (Option.some.inj h2).symm, fun hz => ?_⟩
   subst hz
   exact ⟨_, rfl, trivial⟩
 ·rintro s12 rfl l1 hl1
  refine AW.weaken hl1.sub ?_
  refine AW.seq (AW.reg hn hfx rfl ?_)
  refine .cons rfl (r_copy (.inr rfl) rfl rfl) <| .nil ?_
  refine AW.sub [(4, _)] ⟨rfl, trivial⟩ ?_
  refine AW.ret ?_
  obtain rfl := Option.some.inj h0
  exact ⟨_, .tmp rfl rfl .nil, .inl ⟨rfl, rfl⟩, .inl ⟨rfl, rfl⟩, trivial⟩

end Go.Proofs.Ytoaajjhcdbbfdaa
namespace Go.Proofs.Ytoaajjhcdbbfdaa
open Go.Abs Go.Pure
-- theorem hmix : Try.prog.follows .mixedOrders = true := by kernel_rfl
theorem W89  {n : Int} {k : Int} {r : Int} (h0 : impl_power n k = some r) : Meets Try.prog 89 [⟨tInt, 0, n⟩, ⟨tInt, 0, k⟩] [⟨tInt, 0, r⟩] [⟨tInt, 0, n⟩, ⟨tInt, 0, k⟩] := by
 refine Meets.of_body (fn := Try.f89) Try.func89 rfl rfl rfl fun c hn hfx => ?_
 unfold impl_power at h0
 refine AW.seq (AW.reg hn hfx rfl ?_)
 refine .cons rfl (r_copy (.inr rfl) rfl rfl) <| .nil ?_
 refine AW.sub [(0, _), (1, _)] ⟨rfl, rfl, trivial⟩ ?_
 refine AW.seq (AW.reg hn hfx rfl ?_)
 refine .cons rfl (r_copy (.inr rfl) rfl rfl) <| .nil ?_
 refine AW.sub [(0, _), (1, _), (5, _)] ⟨rfl, rfl, rfl, trivial⟩ ?_
 obtain ⟨z5, h1, h0⟩ := bindE h0
 refine AW.seq (AW.joinJ [] trivial [(5, .val tInt 0 z5)] ?_ ?_)
 ·refine AW.block ?_
  refine AW.loopP h1 [(0, _)] ⟨rfl, trivial⟩ (fun s7 => [(1, .val tInt 0 s7.1), (5, .val tInt 0 s7.2)]) ⟨rfl, rfl, rfl, trivial⟩ fun s7 z8 h2 => ?_
  refine AW.seq ?_
  refine AW.seq (AW.reg hn hfx rfl ?_)
  refine .cons rfl (r_copy (.inl rfl) rfl rfl) <| .cons rfl (r_cmp rfl rfl rfl rfl rfl) <| .nil ?_
  refine AW.sub [(0, _), (1, _), (5, _), (7, _)] ⟨rfl, rfl, rfl, rfl, trivial⟩ ?_
  refine AW.ifP rfl h2 (fun h2 => ?_) (fun h2 => ?_)
  ·refine AW.skip ?_
   refine AW.seq (AW.block ?_)
   refine AW.reg hn hfx rfl ?_
   refine .cons rfl (r_copy (.inl rfl) rfl rfl) <| .cons rfl (r_copy (.inl rfl) rfl rfl) <| .cons rfl (r_arith rfl rfl rfl rfl rfl) <| .cons rfl (r_copy (.inr rfl) rfl rfl) <| .nil ?_
   refine AW.sub [(0, _), (1, _), (5, _)] ⟨rfl, rfl, rfl, trivial⟩ ?_
   refine AW.reg hn hfx rfl ?_
   refine .cons rfl (r_copy (.inl rfl) rfl rfl) <| .cons rfl (r_arith rfl rfl rfl rfl rfl) <| .cons rfl (r_copy (.inr rfl) rfl rfl) <| .nil ?_
   exact ⟨_, (Option.some.inj h2).symm, ⟨rfl, rfl, rfl, trivial⟩⟩
  ·refine AW.exit ?_
   refine ⟨_, (Option.some.inj h2).symm, fun hz => ?_⟩
   subst hz
   exact ⟨rfl, trivial⟩
 ·intro l1 hl1
  refine AW.weaken hl1.sub ?_
  refine AW.seq (AW.reg hn hfx rfl ?_)
  refine .cons rfl (r_copy (.inl rfl) rfl rfl) <| .cons rfl (r_copy (.inr rfl) rfl rfl) <| .nil ?_
  refine AW.sub [(4, _)] ⟨rfl, trivial⟩ ?_
  refine AW.ret ?_
  obtain rfl := Option.some.inj h0
  exact ⟨_, .tmp rfl rfl .nil, .inl ⟨rfl, rfl⟩, .inl ⟨rfl, rfl⟩, trivial⟩

theorem W67  {f : (Int × ((List Int) × Unit))} {n : Int} {r : Bool} (h0 : impl_isOp f n = some r) : Meets Try.prog 67 [⟨ty72, 0, f⟩, ⟨tInt, 0, n⟩] [⟨.bool, 0, r⟩] [⟨ty72, 0, f⟩, ⟨tInt, 0, n⟩] := by
 refine Meets.of_body (fn := Try.f67) Try.func67 rfl rfl rfl fun c hn hfx => ?_
 unfold impl_isOp at h0
 refine AW.seq (AW.reg hn hfx rfl ?_)
 refine .cons rfl (r_box [] rfl rfl rfl) <| .cons rfl (r_copy (.inr rfl) rfl rfl) <| .nil ?_
 refine AW.sub [(1, _), (2, _)] ⟨rfl, rfl, trivial⟩ ?_
 obtain ⟨z4, h1, h0⟩ := bindE h0
 refine AW.seq (AW.joinJ [] trivial [(4, .val .bool 0 z4)] ?_ ?_)
 ·refine AW.draw hmix hn hfx rfl rfl ?_
  refine .cons rfl (r_field rfl rfl rfl rfl ok72 rfl rfl) rfl rfl rfl <| .cons rfl (r_load rfl rfl rfl rfl ok3 rfl) rfl rfl rfl <| .cons rfl (r_cmp rfl rfl rfl rfl rfl) rfl rfl rfl ?_
  refine .ifP (.inl rfl) rfl rfl (fun _ => rfl) rfl h1 (fun h1 => ?_) (fun h1 => ?_)
  ·refine DT.eq [(8, _), (7, _), (6, _), (5, _), (1, _), (2, _)] rfl ?_
   refine .cons (.inl ⟨_, _, _, rfl, rfl, rfl⟩) (r_field rfl rfl rfl rfl ok72 rfl rfl) rfl rfl rfl <| .cons (.inl ⟨_, _, _, rfl, rfl, rfl⟩) (r_load rfl rfl rfl rfl ok3 rfl) rfl rfl rfl <| .cons (.inl ⟨_, _, _, rfl, rfl, rfl⟩) (r_cmp rfl rfl rfl rfl rfl) rfl rfl rfl <| .cons rfl (r_pick_true rfl rfl rfl rfl) rfl rfl rfl ?_
   refine DT.eq [(12, _), (11, _), (10, _), (9, _), (8, _), (7, _), (6, _), (5, _), (1, _), (2, _)] rfl ?_
   refine .ifP (.inl rfl) rfl rfl (fun _ => rfl) rfl h1 (fun h1 => ?_) (fun h1 => ?_)
   ·refine .cons (.inl ⟨_, _, _, rfl, rfl, rfl⟩) (r_field rfl rfl rfl rfl ok72 rfl rfl) rfl rfl rfl <| .cons (.inl ⟨_, _, _, rfl, rfl, rfl⟩) (r_load rfl rfl rfl rfl ok38 rfl) rfl rfl rfl <| .cons (.inl ⟨_, _, _, rfl, rfl, rfl⟩) (r_len rfl rfl ok38 rfl) rfl rfl rfl ?_
    refine DT.eq [(16, _), (15, _), (14, _), (13, _), (12, _), (11, _), (10, _), (9, _), (8, _), (7, _), (6, _), (5, _), (1, _), (2, _)] rfl ?_
    refine .cons (.inl ⟨_, _, _, rfl, rfl, rfl⟩) (r_copy (.inl rfl) rfl rfl) rfl rfl rfl <| .cons (.inl ⟨_, _, _, rfl, rfl, rfl⟩) (r_field rfl rfl rfl rfl ok72 rfl rfl) rfl rfl rfl <| .cons (.inl ⟨_, _, _, rfl, rfl, rfl⟩) (r_load rfl rfl rfl rfl ok3 rfl) rfl rfl rfl ?_
    obtain ⟨x5, hx5, h1⟩ := bindE h1
    refine .cons (.inl ⟨_, _, _, rfl, rfl, rfl⟩) (r_call rfl rfl rfl Try.func89 rfl rfl (W89 hx5) rfl) rfl rfl rfl ?_
    refine DT.eq [(20, _), (19, _), (18, _), (17, _), (16, _), (15, _), (14, _), (13, _), (12, _), (11, _), (10, _), (9, _), (8, _), (7, _), (6, _), (5, _), (1, _), (2, _)] rfl ?_
    refine .cons (.inl ⟨_, _, _, rfl, rfl, rfl⟩) (r_cmp rfl rfl rfl rfl rfl) rfl rfl rfl <| .cons rfl (r_pick_true rfl rfl rfl rfl) rfl rfl rfl ?_
    refine .ifP (.inl rfl) rfl rfl (fun _ => rfl) rfl h1 (fun h1 => ?_) (fun h1 => ?_)
    ·refine .cons (.inl ⟨_, _, _, rfl, rfl, rfl⟩) (r_field rfl rfl rfl rfl ok72 rfl rfl) rfl rfl rfl ?_
     refine DT.eq [(24, _), (23, _), (22, _), (21, _), (20, _), (19, _), (18, _), (17, _), (16, _), (15, _), (14, _), (13, _), (12, _), (11, _), (10, _), (9, _), (8, _), (7, _), (6, _), (5, _), (1, _), (2, _)] rfl ?_
     refine .cons (.inl ⟨_, _, _, rfl, rfl, rfl⟩) (r_load rfl rfl rfl rfl ok38 rfl) rfl rfl rfl <| .cons (.inl ⟨_, _, _, rfl, rfl, rfl⟩) (r_copy (.inl rfl) rfl rfl) rfl rfl rfl ?_
     obtain ⟨x6, hx6, h1⟩ := bindE h1
     refine .cons (.inl ⟨_, _, _, rfl, rfl, rfl⟩) (r_call rfl rfl rfl Try.func76 rfl rfl (W76 hx6) rfl) rfl rfl rfl <| .cons rfl (r_pick_true rfl rfl rfl rfl) rfl rfl rfl ?_
     refine DT.eq [(28, _), (27, _), (26, _), (25, _), (24, _), (23, _), (22, _), (21, _), (20, _), (19, _), (18, _), (17, _), (16, _), (15, _), (14, _), (13, _), (12, _), (11, _), (10, _), (9, _), (8, _), (7, _), (6, _), (5, _), (1, _), (2, _)] rfl ?_
     refine .cons rfl (r_copy (.inr rfl) rfl rfl) rfl rfl rfl <| .nil rfl ?_
     obtain rfl := Option.some.inj h1
     exact ⟨rfl, trivial⟩
    ·refine .pass (.inl ⟨_, _, _, rfl, rfl, rfl⟩) rfl rfl ?_
     refine DT.eq [(24, _), (23, _), (22, _), (21, _), (20, _), (19, _), (18, _), (17, _), (16, _), (15, _), (14, _), (13, _), (12, _), (11, _), (10, _), (9, _), (8, _), (7, _), (6, _), (5, _), (1, _), (2, _)] rfl ?_
     refine .pass (.inl ⟨_, _, _, rfl, rfl, rfl⟩) rfl rfl <| .pass (.inl ⟨_, _, _, rfl, rfl, rfl⟩) rfl rfl <| .pass (.inl ⟨_, _, _, rfl, rfl, rfl⟩) rfl rfl <| .cons rfl (r_pick_false rfl rfl rfl rfl) rfl rfl rfl ?_
     refine DT.eq [(28, _), (27, _), (26, _), (25, _), (24, _), (23, _), (22, _), (21, _), (20, _), (19, _), (18, _), (17, _), (16, _), (15, _), (14, _), (13, _), (12, _), (11, _), (10, _), (9, _), (8, _), (7, _), (6, _), (5, _), (1, _), (2, _)] rfl ?_
     refine .cons rfl (r_copy (.inr rfl) rfl rfl) rfl rfl rfl <| .nil rfl ?_
     obtain rfl := Option.some.inj h1
     exact ⟨rfl, trivial⟩
   ·refine .pass (.inl ⟨_, _, _, rfl, rfl, rfl⟩) rfl rfl <| .pass (.inl ⟨_, _, _, rfl, rfl, rfl⟩) rfl rfl <| .pass (.inl ⟨_, _, _, rfl, rfl, rfl⟩) rfl rfl ?_
    refine DT.eq [(16, _), (15, _), (14, _), (13, _), (12, _), (11, _), (10, _), (9, _), (8, _), (7, _), (6, _), (5, _), (1, _), (2, _)] rfl ?_
    refine .pass (.inl ⟨_, _, _, rfl, rfl, rfl⟩) rfl rfl <| .pass (.inl ⟨_, _, _, rfl, rfl, rfl⟩) rfl rfl <| .pass (.inl ⟨_, _, _, rfl, rfl, rfl⟩) rfl rfl <| .pass (.inl ⟨_, _, _, rfl, rfl, rfl⟩) rfl rfl ?_
    refine DT.eq [(20, _), (19, _), (18, _), (17, _), (16, _), (15, _), (14, _), (13, _), (12, _), (11, _), (10, _), (9, _), (8, _), (7, _), (6, _), (5, _), (1, _), (2, _)] rfl ?_
    refine .pass (.inl ⟨_, _, _, rfl, rfl, rfl⟩) rfl rfl <| .cons rfl (r_pick_false rfl rfl rfl rfl) rfl rfl rfl <| .cons rfl (r_copy (.inl rfl) rfl rfl) rfl rfl rfl <| .pass (.inl ⟨_, _, _, rfl, rfl, rfl⟩) rfl rfl ?_
    refine DT.eq [(24, _), (23, _), (22, _), (21, _), (20, _), (19, _), (18, _), (17, _), (16, _), (15, _), (14, _), (13, _), (12, _), (11, _), (10, _), (9, _), (8, _), (7, _), (6, _), (5, _), (1, _), (2, _)] rfl ?_
    refine .pass (.inl ⟨_, _, _, rfl, rfl, rfl⟩) rfl rfl <| .pass (.inl ⟨_, _, _, rfl, rfl, rfl⟩) rfl rfl <| .pass (.inl ⟨_, _, _, rfl, rfl, rfl⟩) rfl rfl <| .cons rfl (r_pick_false rfl rfl rfl rfl) rfl rfl rfl ?_
    refine DT.eq [(28, _), (27, _), (26, _), (25, _), (24, _), (23, _), (22, _), (21, _), (20, _), (19, _), (18, _), (17, _), (16, _), (15, _), (14, _), (13, _), (12, _), (11, _), (10, _), (9, _), (8, _), (7, _), (6, _), (5, _), (1, _), (2, _)] rfl ?_
    refine .cons rfl (r_copy (.inr rfl) rfl rfl) rfl rfl rfl <| .nil rfl ?_
    obtain rfl := Option.some.inj h1
    exact ⟨rfl, trivial⟩
  ·refine DT.eq [(8, _), (7, _), (6, _), (5, _), (1, _), (2, _)] rfl ?_
   refine .pass (.inl ⟨_, _, _, rfl, rfl, rfl⟩) rfl rfl <| .pass (.inl ⟨_, _, _, rfl, rfl, rfl⟩) rfl rfl <| .pass (.inl ⟨_, _, _, rfl, rfl, rfl⟩) rfl rfl <| .cons rfl (r_pick_false rfl rfl rfl rfl) rfl rfl rfl ?_
   refine DT.eq [(12, _), (11, _), (10, _), (9, _), (8, _), (7, _), (6, _), (5, _), (1, _), (2, _)] rfl ?_
   refine .cons rfl (r_copy (.inl rfl) rfl rfl) rfl rfl rfl <| .pass (.inl ⟨_, _, _, rfl, rfl, rfl⟩) rfl rfl <| .pass (.inl ⟨_, _, _, rfl, rfl, rfl⟩) rfl rfl <| .pass (.inl ⟨_, _, _, rfl, rfl, rfl⟩) rfl rfl ?_
   refine DT.eq [(16, _), (15, _), (14, _), (13, _), (12, _), (11, _), (10, _), (9, _), (8, _), (7, _), (6, _), (5, _), (1, _), (2, _)] rfl ?_
   refine .pass (.inl ⟨_, _, _, rfl, rfl, rfl⟩) rfl rfl <| .pass (.inl ⟨_, _, _, rfl, rfl, rfl⟩) rfl rfl <| .pass (.inl ⟨_, _, _, rfl, rfl, rfl⟩) rfl rfl <| .pass (.inl ⟨_, _, _, rfl, rfl, rfl⟩) rfl rfl ?_
   refine DT.eq [(20, _), (19, _), (18, _), (17, _), (16, _), (15, _), (14, _), (13, _), (12, _), (11, _), (10, _), (9, _), (8, _), (7, _), (6, _), (5, _), (1, _), (2, _)] rfl ?_
   refine .pass (.inl ⟨_, _, _, rfl, rfl, rfl⟩) rfl rfl <| .cons rfl (r_pick_false rfl rfl rfl rfl) rfl rfl rfl <| .cons rfl (r_copy (.inl rfl) rfl rfl) rfl rfl rfl <| .pass (.inl ⟨_, _, _, rfl, rfl, rfl⟩) rfl rfl ?_
   refine DT.eq [(24, _), (23, _), (22, _), (21, _), (20, _), (19, _), (18, _), (17, _), (16, _), (15, _), (14, _), (13, _), (12, _), (11, _), (10, _), (9, _), (8, _), (7, _), (6, _), (5, _), (1, _), (2, _)] rfl ?_
   refine .pass (.inl ⟨_, _, _, rfl, rfl, rfl⟩) rfl rfl <| .pass (.inl ⟨_, _, _, rfl, rfl, rfl⟩) rfl rfl <| .pass (.inl ⟨_, _, _, rfl, rfl, rfl⟩) rfl rfl <| .cons rfl (r_pick_false rfl rfl rfl rfl) rfl rfl rfl ?_
   refine DT.eq [(28, _), (27, _), (26, _), (25, _), (24, _), (23, _), (22, _), (21, _), (20, _), (19, _), (18, _), (17, _), (16, _), (15, _), (14, _), (13, _), (12, _), (11, _), (10, _), (9, _), (8, _), (7, _), (6, _), (5, _), (1, _), (2, _)] rfl ?_
   refine .cons rfl (r_copy (.inr rfl) rfl rfl) rfl rfl rfl <| .nil rfl ?_
   obtain rfl := Option.some.inj h1
   exact ⟨rfl, trivial⟩
 ·intro l1 hl1
  refine AW.weaken hl1.sub ?_
  refine AW.ret ?_
  obtain rfl := Option.some.inj h0
  exact ⟨_, .tmp rfl rfl .nil, .inl ⟨rfl, rfl⟩, .inl ⟨rfl, rfl⟩, trivial⟩

theorem W35  {a : (Int × ((List (Int × ((List Int) × Unit))) × Unit))} {r : Bool} (h0 : impl_IsAlgebra a = some r) : Meets Try.prog 35 [⟨ty26, 0, a⟩] [⟨.bool, 0, r⟩] [⟨ty26, 0, a⟩] := by
 refine Meets.of_body (fn := Try.f35) Try.func35 rfl rfl rfl fun c hn hfx => ?_
 unfold impl_IsAlgebra at h0
 refine AW.seq (AW.reg hn hfx rfl ?_)
 refine .cons rfl (r_box [] rfl rfl rfl) <| .cons rfl (r_copy (.inr rfl) rfl rfl) <| .nil ?_
 refine AW.sub [(1, _)] ⟨rfl, trivial⟩ ?_
 refine AW.seq ?_
 obtain ⟨z2, h1, h0⟩ := bindE h0
 refine AW.seq (AW.joinJ [(1, _)] ⟨rfl, trivial⟩ [(18, .val .bool 0 z2)] ?_ ?_)
 ·refine AW.reg hn hfx rfl ?_
  refine .cons rfl (r_field rfl rfl rfl rfl ok26 rfl rfl) <| .cons rfl (r_load rfl rfl rfl rfl ok3 rfl) <| .cons rfl (r_cmp rfl rfl rfl rfl rfl) ?_
  refine .ifP (.inl rfl) rfl rfl h1 (fun h1 => ?_) (fun h1 => ?_)
  ·refine RT.sub [(1, _), (8, _)] ⟨rfl, rfl, trivial⟩ ?_
   refine .pass (.inl ⟨_, _, _, rfl, rfl, rfl⟩) <| .pass (.inl ⟨_, _, _, rfl, rfl, rfl⟩) <| .pass (.inl ⟨_, _, _, rfl, rfl, rfl⟩) <| .cons rfl (r_pick_true rfl rfl rfl rfl) ?_
   refine RT.sub [(1, _), (12, _)] ⟨rfl, rfl, trivial⟩ ?_
   refine .cons rfl (r_copy (.inl rfl) rfl rfl) <| .pass (.inl ⟨_, _, _, rfl, rfl, rfl⟩) <| .pass (.inl ⟨_, _, _, rfl, rfl, rfl⟩) <| .pass (.inl ⟨_, _, _, rfl, rfl, rfl⟩) ?_
   refine RT.sub [(1, _), (13, _), (16, _)] ⟨rfl, rfl, rfl, trivial⟩ ?_
   refine .pass (.inl ⟨_, _, _, rfl, rfl, rfl⟩) <| .cons rfl (r_pick_true rfl rfl rfl rfl) <| .nil ?_
   obtain rfl := Option.some.inj h1
   exact ⟨rfl, rfl, trivial⟩
  ·refine RT.sub [(1, _), (8, _)] ⟨rfl, rfl, trivial⟩ ?_
   refine .cons (.inl ⟨_, _, _, rfl, rfl, rfl⟩) (r_field rfl rfl rfl rfl ok26 rfl rfl) <| .cons (.inl ⟨_, _, _, rfl, rfl, rfl⟩) (r_load rfl rfl rfl rfl ok3 rfl) <| .cons (.inl ⟨_, _, _, rfl, rfl, rfl⟩) (r_cmp rfl rfl rfl rfl rfl) <| .cons rfl (r_pick_false rfl rfl rfl rfl) ?_
   refine RT.sub [(1, _), (12, _)] ⟨rfl, rfl, trivial⟩ ?_
   refine .ifP (.inl rfl) rfl rfl h1 (fun h1 => ?_) (fun h1 => ?_)
   ·refine .pass (.inl ⟨_, _, _, rfl, rfl, rfl⟩) <| .pass (.inl ⟨_, _, _, rfl, rfl, rfl⟩) <| .pass (.inl ⟨_, _, _, rfl, rfl, rfl⟩) ?_
    refine RT.sub [(1, _), (13, _), (16, _)] ⟨rfl, rfl, rfl, trivial⟩ ?_
    refine .pass (.inl ⟨_, _, _, rfl, rfl, rfl⟩) <| .cons rfl (r_pick_true rfl rfl rfl rfl) <| .nil ?_
    obtain rfl := Option.some.inj h1
    exact ⟨rfl, rfl, trivial⟩
   ·refine .cons (.inl ⟨_, _, _, rfl, rfl, rfl⟩) (r_field rfl rfl rfl rfl ok26 rfl rfl) <| .cons (.inl ⟨_, _, _, rfl, rfl, rfl⟩) (r_load rfl rfl rfl rfl ok24 rfl) <| .cons (.inl ⟨_, _, _, rfl, rfl, rfl⟩) (r_len rfl rfl ok24 rfl) ?_
    refine RT.sub [(1, _), (13, _), (16, _)] ⟨rfl, rfl, rfl, trivial⟩ ?_
    refine .cons (.inl ⟨_, _, _, rfl, rfl, rfl⟩) (r_cmp rfl rfl rfl rfl rfl) <| .cons rfl (r_pick_false rfl rfl rfl rfl) <| .nil ?_
    obtain rfl := Option.some.inj h1
    exact ⟨rfl, rfl, trivial⟩
 ·intro l1 hl1
  refine AW.weaken hl1.sub ?_
  refine AW.ifP rfl h0 (fun h0 => ?_) (fun h0 => ?_)
  ·refine AW.seq (AW.reg hn hfx rfl ?_)
   refine .cons rfl (r_copy (.inr rfl) rfl rfl) <| .nil ?_
   refine AW.sub [(2, _)] ⟨rfl, trivial⟩ ?_
   refine AW.ret ?_
   obtain rfl := Option.some.inj h0
   exact ⟨_, .tmp rfl rfl .nil, .inl ⟨rfl, rfl⟩, trivial⟩
  ·refine AW.skip ?_
   refine AW.seq ?_
   refine AW.seq (AW.reg hn hfx rfl ?_)
   refine .cons rfl (r_field rfl rfl rfl rfl ok26 rfl rfl) <| .cons rfl (r_load rfl rfl rfl rfl ok24 rfl) <| .cons rfl (r_len rfl rfl ok24 rfl) <| .cons rfl (r_copy (.inl rfl) rfl rfl) <| .nil ?_
   refine AW.sub [(1, _), (20, _), (21, _), (22, _)] ⟨rfl, rfl, rfl, rfl, trivial⟩ ?_
   obtain ⟨z12, h1, h0⟩ := bindE h0
   refine AW.joinX z12 [] trivial (fun s11 => []) ?_ ?_
   ·refine AW.block ?_
    refine AW.loopP h1 [(1, _), (20, _), (21, _)] ⟨rfl, rfl, rfl, trivial⟩ (fun s16 => [(22, .val tInt 0 s16)]) ⟨rfl, rfl, rfl, rfl, trivial⟩ fun s16 z19 h2 => ?_
    refine AW.seq (AW.reg hn hfx rfl ?_)
    refine .cons rfl (r_cmp rfl rfl rfl rfl rfl) <| .nil ?_
    refine AW.sub [(1, _), (20, _), (21, _), (22, _), (23, _)] ⟨rfl, rfl, rfl, rfl, rfl, trivial⟩ ?_
    refine AW.seq (AW.ifP rfl h2 (fun h2 => ?_) (fun h2 => ?_))
    ·refine AW.skip ?_
     refine AW.seq (AW.block ?_)
     refine AW.seq (AW.reg hn hfx rfl ?_)
     obtain ⟨x17, hx17, h2⟩ := bindE h2
     refine .cons rfl (r_index_shared rfl rfl rfl ok24 (idx_nn hx17) (idx_get hx17)) <| .cons rfl (r_load_shared rfl rfl ok72) <| .cons rfl (SR.lower 1 (r_alloc rfl ok72 rfl)) <| .cons rfl (r_store [] rfl rfl rfl rfl rfl rfl rfl rfl ok72 rfl rfl rfl rfl) <| .nil ?_
     refine AW.sub [(1, _), (4, _), (20, _), (21, _), (22, _)] ⟨rfl, rfl, rfl, rfl, rfl, trivial⟩ ?_
     refine AW.seq (AW.reg hn hfx rfl ?_)
     refine .cons rfl (r_load rfl rfl rfl rfl ok72 rfl) <| .cons rfl (r_field rfl rfl rfl rfl ok26 rfl rfl) <| .cons rfl (r_load rfl rfl rfl rfl ok3 rfl) ?_
     obtain ⟨x18, hx18, h2⟩ := bindE h2
     refine .cons rfl (r_call rfl rfl rfl Try.func67 rfl rfl (W67 hx18) rfl) ?_
     refine RT.sub [(1, _), (20, _), (21, _), (22, _), (29, _)] ⟨rfl, rfl, rfl, rfl, rfl, trivial⟩ ?_
     refine .cons rfl (r_not rfl rfl rfl) <| .nil ?_
     refine AW.sub [(1, _), (20, _), (21, _), (22, _), (30, _)] ⟨rfl, rfl, rfl, rfl, rfl, trivial⟩ ?_
     refine AW.ifP rfl h2 (fun h2 => ?_) (fun h2 => ?_)
     ·refine AW.seq (AW.reg hn hfx rfl ?_)
      refine .cons rfl (r_copy (.inr rfl) rfl rfl) <| .nil ?_
      refine AW.sub [(2, _)] ⟨rfl, trivial⟩ ?_
      refine AW.ret ?_
      refine ⟨_, (Option.some.inj h2).symm, fun hz => ?_⟩
      subst hz
      obtain rfl := Option.some.inj h0
      exact ⟨_, .tmp rfl rfl .nil, .inl ⟨rfl, rfl⟩, trivial⟩
     ·refine AW.skip ?_
      refine AW.reg hn hfx rfl ?_
      refine .cons rfl (r_arith rfl rfl rfl rfl rfl) <| .cons rfl (r_copy (.inl rfl) rfl rfl) <| .nil ?_
      exact ⟨_, (Option.some.inj h2).symm, ⟨rfl, rfl, rfl, rfl, trivial⟩⟩
    ·refine AW.exit ?_
     refine ⟨_, (Option.some.inj h2).symm, fun hz => ?_⟩
     subst hz
     exact ⟨_, rfl, trivial⟩
   ·rintro s11 rfl l1 hl1
    refine AW.weaken hl1.sub ?_
    refine AW.seq (AW.reg hn hfx rfl ?_)
    refine .cons rfl (r_copy (.inr rfl) rfl rfl) <| .nil ?_
    refine AW.sub [(2, _)] ⟨rfl, trivial⟩ ?_
    refine AW.ret ?_
    obtain rfl := Option.some.inj h0
    exact ⟨_, .tmp rfl rfl .nil, .inl ⟨rfl, rfl⟩, trivial⟩

theorem W29  {a : (Int × ((List (Int × ((List Int) × Unit))) × Unit))} {r : Bool} (h0 : impl_isNamed a = some r) : Meets Try.prog 29 [⟨ty26, 0, a⟩] [⟨.bool, 0, r⟩] [⟨ty26, 0, a⟩] := by
 refine Meets.of_body (fn := Try.f29) Try.func29 rfl rfl rfl fun c hn hfx => ?_
 unfold impl_isNamed at h0
 refine AW.seq (AW.reg hn hfx rfl ?_)
 refine .cons rfl (r_box [] rfl rfl rfl) <| .cons rfl (r_copy (.inr rfl) rfl rfl) <| .nil ?_
 refine AW.sub [(1, _)] ⟨rfl, trivial⟩ ?_
 obtain ⟨z3, h1, h0⟩ := bindE h0
 refine AW.seq (AW.joinJ [] trivial [(2, .val .bool 0 z3)] ?_ ?_)
 ·refine AW.reg hn hfx rfl ?_
  refine .cons rfl (r_load rfl rfl rfl rfl ok26 rfl) ?_
  obtain ⟨x4, hx4, h1⟩ := bindE h1
  refine .cons rfl (r_call rfl rfl rfl Try.func35 rfl rfl (W35 hx4) rfl) ?_
  refine .ifP (.inl rfl) rfl rfl h1 (fun h1 => ?_) (fun h1 => ?_)
  ·refine .cons (.inl ⟨_, _, _, rfl, rfl, rfl⟩) (r_field rfl rfl rfl rfl ok26 rfl rfl) ?_
   refine RT.sub [(1, _), (5, _), (6, _)] ⟨rfl, rfl, rfl, trivial⟩ ?_
   refine .cons (.inl ⟨_, _, _, rfl, rfl, rfl⟩) (r_load rfl rfl rfl rfl ok3 rfl) <| .cons (.inl ⟨_, _, _, rfl, rfl, rfl⟩) (r_cmp rfl rfl rfl rfl rfl) <| .cons rfl (r_pick_true rfl rfl rfl rfl) <| .cons rfl (r_copy (.inr rfl) rfl rfl) <| .nil ?_
   obtain rfl := Option.some.inj h1
   exact ⟨rfl, trivial⟩
  ·refine .pass (.inl ⟨_, _, _, rfl, rfl, rfl⟩) ?_
   refine RT.sub [(5, _), (6, _)] ⟨rfl, rfl, trivial⟩ ?_
   refine .pass (.inl ⟨_, _, _, rfl, rfl, rfl⟩) <| .pass (.inl ⟨_, _, _, rfl, rfl, rfl⟩) <| .cons rfl (r_pick_false rfl rfl rfl rfl) <| .cons rfl (r_copy (.inr rfl) rfl rfl) <| .nil ?_
   obtain rfl := Option.some.inj h1
   exact ⟨rfl, trivial⟩
 ·intro l1 hl1
  refine AW.weaken hl1.sub ?_
  refine AW.ret ?_
  obtain rfl := Option.some.inj h0
  exact ⟨_, .tmp rfl rfl .nil, .inl ⟨rfl, rfl⟩, trivial⟩

theorem W63  {list : (List Int)} {r : (List Int)} (h0 : impl_clone list = some r) : Meets Try.prog 63 [⟨ty38, 0, list⟩] [⟨ty38, 1, r⟩] [⟨ty38, 0, list⟩] := by
 refine Meets.of_body (fn := Try.f63) Try.func63 rfl rfl rfl fun c hn hfx => ?_
 unfold impl_clone at h0
 refine AW.seq (AW.reg hn hfx rfl ?_)
 refine .cons rfl (r_nilS (m := 1) (.inr rfl) ok38) <| .nil ?_
 refine AW.sub [(0, _)] ⟨rfl, trivial⟩ ?_
 refine AW.seq (AW.reg hn hfx rfl ?_)
 refine .cons rfl (r_buildSlice [] (e := tInt) (mc := 0) rfl rfl rfl ok38 rfl rfl rfl) <| .cons rfl (r_copy (.inl rfl) rfl rfl) ?_
 obtain ⟨x1, hx1, h0⟩ := bindE h0
 refine .cons rfl (r_append [] rfl rfl rfl ok38 rfl (mr := 0) rfl rfl (app_len hx1) (app_eq hx1)) <| .cons rfl (r_assign [] (.inl rfl) rfl rfl) <| .nil ?_
 refine AW.sub [(2, _)] ⟨rfl, trivial⟩ ?_
 refine AW.ret ?_
 obtain rfl := Option.some.inj h0
 exact ⟨_, .tmp rfl rfl .nil, .inl ⟨rfl, rfl⟩, trivial⟩

theorem W95  {f : (Int × ((List Int) × Unit))} {r : (Int × ((List Int) × Unit))} (h0 : impl_cloneOp f = some r) : Meets Try.prog 95 [⟨ty72, 0, f⟩] [⟨ty72, 1, r⟩] [⟨ty72, 0, f⟩] := by
 refine Meets.of_body (fn := Try.f95) Try.func95 rfl rfl rfl fun c hn hfx => ?_
 unfold impl_cloneOp at h0
 refine AW.seq (AW.reg hn hfx rfl ?_)
 refine .cons rfl (r_box [] rfl rfl rfl) <| .cons rfl (r_alloc rfl ok72 rfl) <| .nil ?_
 refine AW.sub [(1, _), (2, _)] ⟨rfl, rfl, trivial⟩ ?_
 refine AW.seq (AW.draw hmix hn hfx rfl rfl ?_)
 refine .cons rfl (r_field rfl rfl rfl rfl ok72 rfl rfl) rfl rfl rfl <| .cons rfl (r_load rfl rfl rfl rfl ok3 rfl) rfl rfl rfl <| .cons rfl (r_field rfl rfl rfl rfl ok72 rfl rfl) rfl rfl rfl <| .cons rfl (r_load rfl rfl rfl rfl ok38 rfl) rfl rfl rfl ?_
 refine DT.eq [(6, _), (5, _), (4, _), (3, _), (1, _), (2, _)] rfl ?_
 obtain ⟨x1, hx1, h0⟩ := bindE h0
 refine .cons rfl (r_call rfl rfl rfl Try.func63 rfl rfl (W63 hx1) rfl) rfl rfl rfl <| .cons rfl (r_build [] rfl rfl rfl ok72 ⟨_, _, rfl⟩ rfl rfl (mc := 1)) rfl rfl rfl <| .cons rfl (r_store [] rfl rfl rfl rfl rfl rfl rfl rfl ok72 rfl rfl rfl rfl) rfl rfl rfl <| .nil rfl ?_
 refine AW.sub [(2, _)] ⟨rfl, trivial⟩ ?_
 refine AW.ret ?_
 obtain rfl := Option.some.inj h0
 exact ⟨_, .cell rfl ok72 .nil, .inl ⟨rfl, rfl⟩, trivial⟩

theorem W77  {a : (Int × ((List (Int × ((List Int) × Unit))) × Unit))} {r : (Int × ((List (Int × ((List Int) × Unit))) × Unit))} (h0 : impl_cloneAlgebra a = some r) : Meets Try.prog 77 [⟨ty26, 0, a⟩] [⟨ty26, 2, r⟩] [⟨ty26, 0, a⟩] := by
 refine Meets.of_body (fn := Try.f77) Try.func77 rfl rfl rfl fun c hn hfx => ?_
 unfold impl_cloneAlgebra at h0
 refine AW.seq (AW.reg hn hfx rfl ?_)
 refine .cons rfl (r_box [] rfl rfl rfl) <| .cons rfl (r_alloc rfl ok26 rfl) <| .nil ?_
 refine AW.sub [(1, _), (2, _)] ⟨rfl, rfl, trivial⟩ ?_
 refine AW.seq (AW.reg hn hfx rfl ?_)
 refine .cons rfl (r_field rfl rfl rfl rfl ok26 rfl rfl) <| .cons rfl (r_load rfl rfl rfl rfl ok3 rfl) <| .cons rfl (r_build [] rfl rfl rfl ok26 ⟨_, _, rfl⟩ rfl rfl (mc := 2)) <| .cons rfl (r_alloc rfl ok26 rfl) ?_
 refine RT.sub [(1, _), (2, _), (3, _), (8, _)] ⟨rfl, rfl, rfl, rfl, trivial⟩ ?_
 refine .cons rfl (r_store [] rfl rfl rfl rfl rfl rfl rfl rfl ok26 rfl rfl rfl rfl) <| .nil ?_
 refine AW.sub [(1, _), (2, _), (3, _)] ⟨rfl, rfl, rfl, trivial⟩ ?_
 refine AW.seq ?_
 refine AW.seq (AW.reg hn hfx rfl ?_)
 refine .cons rfl (r_field rfl rfl rfl rfl ok26 rfl rfl) <| .cons rfl (r_load rfl rfl rfl rfl ok24 rfl) <| .cons rfl (r_len rfl rfl ok24 rfl) <| .cons rfl (r_copy (.inl rfl) rfl rfl) <| .nil ?_
 refine AW.sub [(2, _), (3, _), (10, _), (11, _), (12, _)] ⟨rfl, rfl, rfl, rfl, rfl, trivial⟩ ?_
 obtain ⟨z11, h1, h0⟩ := bindE h0
 refine AW.joinJ [(2, _)] ⟨rfl, trivial⟩ [(3, .val (.ptr ty26) 3 z11)] ?_ ?_
 ·refine AW.block ?_
  refine AW.loopP h1 [(2, _), (10, _), (11, _)] ⟨rfl, rfl, rfl, trivial⟩ (fun s16 => [(3, .val (.ptr ty26) 3 s16.1), (12, .val tInt 0 s16.2)]) ⟨rfl, rfl, rfl, rfl, rfl, trivial⟩ fun s16 z20 h2 => ?_
  refine AW.seq (AW.reg hn hfx rfl ?_)
  refine .cons rfl (r_cmp rfl rfl rfl rfl rfl) <| .nil ?_
  refine AW.sub [(2, _), (3, _), (10, _), (11, _), (12, _), (13, _)] ⟨rfl, rfl, rfl, rfl, rfl, rfl, trivial⟩ ?_
  refine AW.seq (AW.ifP rfl h2 (fun h2 => ?_) (fun h2 => ?_))
  ·refine AW.skip ?_
   refine AW.seq (AW.block ?_)
   refine AW.seq (AW.reg hn hfx rfl ?_)
   obtain ⟨x17, hx17, h2⟩ := bindE h2
   refine .cons rfl (r_index_shared rfl rfl rfl ok24 (idx_nn hx17) (idx_get hx17)) <| .cons rfl (r_load_shared rfl rfl ok72) <| .cons rfl (SR.lower 1 (r_alloc rfl ok72 rfl)) <| .cons rfl (r_store [] rfl rfl rfl rfl rfl rfl rfl rfl ok72 rfl rfl rfl rfl) <| .nil ?_
   refine AW.sub [(2, _), (3, _), (5, _), (10, _), (11, _), (12, _)] ⟨rfl, rfl, rfl, rfl, rfl, rfl, trivial⟩ ?_
   refine AW.draw hmix hn hfx rfl rfl ?_
   refine .cons rfl (r_field rfl rfl rfl rfl ok26 rfl rfl) rfl rfl rfl <| .cons rfl (r_load_ref rfl rfl rfl rfl ok24) rfl rfl rfl <| .cons rfl (r_load rfl rfl rfl rfl ok72 rfl) rfl rfl rfl ?_
   obtain ⟨x18, hx18, h2⟩ := bindE h2
   refine .cons rfl (r_call rfl rfl rfl Try.func95 rfl rfl (W95 hx18) rfl) rfl rfl rfl ?_
   refine DT.eq [(19, _), (18, _), (17, _), (16, _), (2, _), (3, _), (5, _), (10, _), (11, _), (12, _)] rfl ?_
   refine .cons rfl (r_buildSlice [] (e := ty72) (mc := 1) rfl rfl rfl ok24 rfl rfl rfl) rfl rfl rfl ?_
   obtain ⟨x19, hx19, h2⟩ := bindE h2
   refine .cons rfl (r_append [] rfl rfl rfl ok24 rfl (mr := 1) rfl rfl (app_len hx19) (app_eq hx19)) rfl rfl rfl <| .cons rfl (r_field rfl rfl rfl rfl ok26h0 rfl rfl) rfl rfl rfl <| .cons rfl (r_store [] rfl rfl rfl rfl rfl rfl rfl rfl ok24 rfl rfl rfl rfl) rfl rfl rfl <| .nil rfl ?_
   refine AW.sub [(2, _), (3, _), (10, _), (11, _), (12, _)] ⟨rfl, rfl, rfl, rfl, rfl, trivial⟩ ?_
   refine AW.reg hn hfx rfl ?_
   refine .cons rfl (r_arith rfl rfl rfl rfl rfl) <| .cons rfl (r_copy (.inl rfl) rfl rfl) <| .nil ?_
   exact ⟨_, (Option.some.inj h2).symm, ⟨rfl, rfl, rfl, rfl, rfl, trivial⟩⟩
  ·refine AW.exit ?_
   refine ⟨_, (Option.some.inj h2).symm, fun hz => ?_⟩
   subst hz
   exact ⟨rfl, rfl, trivial⟩
 ·intro l1 hl1
  refine AW.weaken hl1.sub ?_
  refine AW.seq (AW.reg hn hfx rfl ?_)
  refine .cons rfl (r_load_ref rfl rfl rfl rfl ok26) <| .cons rfl (r_store [24] rfl rfl rfl rfl rfl rfl rfl rfl ok26 rfl rfl rfl rfl) <| .nil ?_
  refine AW.sub [(2, _)] ⟨rfl, trivial⟩ ?_
  refine AW.ret ?_
  obtain rfl := Option.some.inj h0
  exact ⟨_, .cell rfl ok26 .nil, .inl ⟨rfl, rfl⟩, trivial⟩

theorem W78  {i : Int} {k : Int} {n : Int} {r : (List Int)} (h0 : impl_argsAt i k n = some r) : Meets Try.prog 78 [⟨tInt, 0, i⟩, ⟨tInt, 0, k⟩, ⟨tInt, 0, n⟩] [⟨ty38, 1, r⟩] [⟨tInt, 0, i⟩, ⟨tInt, 0, k⟩, ⟨tInt, 0, n⟩] := by
 refine Meets.of_body (fn := Try.f78) Try.func78 rfl rfl rfl fun c hn hfx => ?_
 unfold impl_argsAt at h0
 refine AW.seq (AW.reg hn hfx rfl ?_)
 refine .cons rfl (r_nilS (m := 1) (.inr rfl) ok38) <| .nil ?_
 refine AW.sub [(0, _), (1, _), (2, _)] ⟨rfl, rfl, rfl, trivial⟩ ?_
 refine AW.seq (AW.reg hn hfx rfl ?_)
 refine .cons rfl (r_copy (.inl rfl) rfl rfl) ?_
 obtain ⟨x1, hx1, h0⟩ := bindE h0
 refine .cons rfl (r_mkS rfl rfl rfl ok38 rfl hx1) <| .cons rfl (r_assign [] (.inl rfl) rfl rfl) <| .nil ?_
 refine AW.sub [(0, _), (1, _), (2, _), (7, _)] ⟨rfl, rfl, rfl, rfl, trivial⟩ ?_
 refine AW.seq ?_
 refine AW.seq (AW.reg hn hfx rfl ?_)
 refine .cons rfl (r_copy (.inl rfl) rfl rfl) <| .cons rfl (r_arith rfl rfl rfl rfl rfl) <| .cons rfl (r_copy (.inr rfl) rfl rfl) <| .nil ?_
 refine AW.sub [(0, _), (2, _), (7, _), (8, _)] ⟨rfl, rfl, rfl, rfl, trivial⟩ ?_
 obtain ⟨z12, h1, h0⟩ := bindE h0
 refine AW.joinJ [] trivial [(7, .val ty38 1 z12)] ?_ ?_
 ·refine AW.block ?_
  refine AW.loopP h1 [(2, _)] ⟨rfl, trivial⟩ (fun s17 => [(0, .val tInt 0 s17.1), (7, .val ty38 1 s17.2.1), (8, .val tInt 0 s17.2.2)]) ⟨rfl, rfl, rfl, rfl, trivial⟩ fun s17 z21 h2 => ?_
  refine AW.seq ?_
  refine AW.seq (AW.reg hn hfx rfl ?_)
  refine .cons rfl (r_copy (.inl rfl) rfl rfl) <| .cons rfl (r_cmp rfl rfl rfl rfl rfl) <| .nil ?_
  refine AW.sub [(0, _), (2, _), (7, _), (8, _), (14, _)] ⟨rfl, rfl, rfl, rfl, rfl, trivial⟩ ?_
  refine AW.ifP rfl h2 (fun h2 => ?_) (fun h2 => ?_)
  ·refine AW.skip ?_
   refine AW.seq (AW.block ?_)
   refine AW.seq (AW.reg hn hfx rfl ?_)
   refine .cons rfl (r_alias rfl rfl) <| .cons rfl (r_copy (.inl rfl) rfl rfl) <| .cons rfl (r_copy (.inl rfl) rfl rfl) <| .cons rfl (r_copy (.inl rfl) rfl rfl) ?_
   refine RT.sub [(0, _), (2, _), (7, _), (8, _), (17, _), (18, _), (19, _), (20, _)] ⟨rfl, rfl, rfl, rfl, rfl, rfl, rfl, rfl, trivial⟩ ?_
   obtain ⟨_, hx18, h2⟩ := bindE h2
   refine .cons rfl (r_rem rfl rfl rfl (needE hx18) rfl) ?_
   obtain ⟨x19, hx19, h2⟩ := bindE h2
   refine .cons rfl (r_index_own rfl rfl rfl rfl rfl ok38 (idx_nn hx19) (idx_lt hx19)) <| .cons rfl (r_store [] rfl rfl rfl rfl rfl rfl rfl (sub_app rfl (sub_e (idx_get hx19))) ok3 rfl rfl rfl (repl_app rfl (repl_e (idx_get hx19)) rfl)) <| .nil ?_
   refine AW.sub [(0, _), (2, _), (7, _), (8, _)] ⟨rfl, rfl, rfl, rfl, trivial⟩ ?_
   refine AW.reg hn hfx rfl ?_
   refine .cons rfl (r_copy (.inl rfl) rfl rfl) <| .cons rfl (r_copy (.inl rfl) rfl rfl) ?_
   obtain ⟨_, hx20, h2⟩ := bindE h2
   refine .cons rfl (r_quo rfl rfl rfl (needE hx20) rfl) <| .cons rfl (r_copy (.inr rfl) rfl rfl) <| .nil ?_
   refine AW.sub [(0, _), (2, _), (7, _), (8, _)] ⟨rfl, rfl, rfl, rfl, trivial⟩ ?_
   refine AW.reg hn hfx rfl ?_
   refine .cons rfl (r_copy (.inl rfl) rfl rfl) <| .cons rfl (r_arith rfl rfl rfl rfl rfl) <| .cons rfl (r_copy (.inr rfl) rfl rfl) <| .nil ?_
   exact ⟨_, (Option.some.inj h2).symm, ⟨rfl, rfl, rfl, rfl, trivial⟩⟩
  ·refine AW.exit ?_
   refine ⟨_, (Option.some.inj h2).symm, fun hz => ?_⟩
   subst hz
   exact ⟨rfl, trivial⟩
 ·intro l1 hl1
  refine AW.weaken hl1.sub ?_
  refine AW.seq (AW.reg hn hfx rfl ?_)
  refine .cons rfl (r_alias rfl rfl) <| .cons rfl (r_assign [26] (.inl rfl) rfl rfl) <| .nil ?_
  refine AW.sub [(6, _)] ⟨rfl, trivial⟩ ?_
  refine AW.ret ?_
  obtain rfl := Option.some.inj h0
  exact ⟨_, .tmp rfl rfl .nil, .inl ⟨rfl, rfl⟩, .inl ⟨rfl, rfl⟩, .inl ⟨rfl, rfl⟩, trivial⟩

theorem W79  {args : (List Int)} {n : Int} {r : Int} (h0 : impl_indexOf args n = some r) : Meets Try.prog 79 [⟨ty38, 0, args⟩, ⟨tInt, 0, n⟩] [⟨tInt, 0, r⟩] [⟨ty38, 0, args⟩, ⟨tInt, 0, n⟩] := by
 refine Meets.of_body (fn := Try.f79) Try.func79 rfl rfl rfl fun c hn hfx => ?_
 unfold impl_indexOf at h0
 refine AW.seq (AW.reg hn hfx rfl ?_)
 refine .cons rfl (r_copy (.inr rfl) rfl rfl) <| .nil ?_
 refine AW.sub [(0, _), (1, _)] ⟨rfl, rfl, trivial⟩ ?_
 refine AW.seq (AW.reg hn hfx rfl ?_)
 refine .cons rfl (r_copy (.inr rfl) rfl rfl) <| .nil ?_
 refine AW.sub [(0, _), (1, _), (5, _)] ⟨rfl, rfl, rfl, trivial⟩ ?_
 refine AW.seq ?_
 refine AW.seq (AW.reg hn hfx rfl ?_)
 refine .cons rfl (r_copy (.inl rfl) rfl rfl) <| .cons rfl (r_len rfl rfl ok38 rfl) <| .cons rfl (r_copy (.inl rfl) rfl rfl) <| .nil ?_
 refine AW.sub [(1, _), (5, _), (8, _), (9, _), (10, _)] ⟨rfl, rfl, rfl, rfl, rfl, trivial⟩ ?_
 obtain ⟨z7, h1, h0⟩ := bindE h0
 refine AW.joinJ [] trivial [(5, .val tInt 0 z7)] ?_ ?_
 ·refine AW.block ?_
  refine AW.loopP h1 [(1, _), (8, _), (9, _)] ⟨rfl, rfl, rfl, trivial⟩ (fun s10 => [(5, .val tInt 0 s10.1), (10, .val tInt 0 s10.2)]) ⟨rfl, rfl, rfl, rfl, rfl, trivial⟩ fun s10 z12 h2 => ?_
  refine AW.seq (AW.reg hn hfx rfl ?_)
  refine .cons rfl (r_cmp rfl rfl rfl rfl rfl) <| .nil ?_
  refine AW.sub [(1, _), (5, _), (8, _), (9, _), (10, _), (11, _)] ⟨rfl, rfl, rfl, rfl, rfl, rfl, trivial⟩ ?_
  refine AW.seq (AW.ifP rfl h2 (fun h2 => ?_) (fun h2 => ?_))
  ·refine AW.skip ?_
   refine AW.seq (AW.block ?_)
   refine AW.seq (AW.reg hn hfx rfl ?_)
   obtain ⟨x11, hx11, h2⟩ := bindE h2
   refine .cons rfl (r_index_shared rfl rfl rfl ok38 (idx_nn hx11) (idx_get hx11)) <| .cons rfl (r_load_shared rfl rfl ok3) <| .cons rfl (r_copy (.inr rfl) rfl rfl) <| .nil ?_
   refine AW.sub [(1, _), (5, _), (7, _), (8, _), (9, _), (10, _)] ⟨rfl, rfl, rfl, rfl, rfl, rfl, trivial⟩ ?_
   refine AW.reg hn hfx rfl ?_
   refine .cons rfl (r_copy (.inl rfl) rfl rfl) <| .cons rfl (r_copy (.inl rfl) rfl rfl) <| .cons rfl (r_arith rfl rfl rfl rfl rfl) <| .cons rfl (r_copy (.inl rfl) rfl rfl) ?_
   refine RT.sub [(1, _), (8, _), (9, _), (10, _), (16, _), (17, _)] ⟨rfl, rfl, rfl, rfl, rfl, rfl, trivial⟩ ?_
   refine .cons rfl (r_arith rfl rfl rfl rfl rfl) <| .cons rfl (r_copy (.inr rfl) rfl rfl) <| .nil ?_
   refine AW.sub [(1, _), (5, _), (8, _), (9, _), (10, _)] ⟨rfl, rfl, rfl, rfl, rfl, trivial⟩ ?_
   refine AW.reg hn hfx rfl ?_
   refine .cons rfl (r_arith rfl rfl rfl rfl rfl) <| .cons rfl (r_copy (.inl rfl) rfl rfl) <| .nil ?_
   exact ⟨_, (Option.some.inj h2).symm, ⟨rfl, rfl, rfl, rfl, rfl, trivial⟩⟩
  ·refine AW.exit ?_
   refine ⟨_, (Option.some.inj h2).symm, fun hz => ?_⟩
   subst hz
   exact ⟨rfl, trivial⟩
 ·intro l1 hl1
  refine AW.weaken hl1.sub ?_
  refine AW.seq (AW.reg hn hfx rfl ?_)
  refine .cons rfl (r_copy (.inl rfl) rfl rfl) <| .cons rfl (r_copy (.inr rfl) rfl rfl) <| .nil ?_
  refine AW.sub [(4, _)] ⟨rfl, trivial⟩ ?_
  refine AW.ret ?_
  obtain rfl := Option.some.inj h0
  exact ⟨_, .tmp rfl rfl .nil, .inl ⟨rfl, rfl⟩, .inl ⟨rfl, rfl⟩, trivial⟩

theorem W49  {a : (Int × ((List (Int × ((List Int) × Unit))) × Unit))} {names : (List Int)} {r : (Int × ((List (Int × ((List Int) × Unit))) × Unit))} (h0 : impl_rename a names = some r) : Meets Try.prog 49 [⟨ty26, 0, a⟩, ⟨ty38, 0, names⟩] [⟨ty26, 2, r⟩] [⟨ty26, 0, a⟩, ⟨ty38, 0, names⟩] := by
 refine Meets.of_body (fn := Try.f49) Try.func49 rfl rfl rfl fun c hn hfx => ?_
 unfold impl_rename at h0
 refine AW.seq (AW.reg hn hfx rfl ?_)
 refine .cons rfl (r_box [] rfl rfl rfl) <| .cons rfl (r_alloc rfl ok26 rfl) <| .nil ?_
 refine AW.sub [(1, _), (2, _), (4, _)] ⟨rfl, rfl, rfl, trivial⟩ ?_
 refine AW.seq (AW.reg hn hfx rfl ?_)
 refine .cons rfl (r_load rfl rfl rfl rfl ok26 rfl) ?_
 obtain ⟨x1, hx1, h0⟩ := bindE h0
 refine .cons rfl (r_call rfl rfl rfl Try.func77 rfl rfl (W77 hx1) rfl) <| .cons rfl (r_alloc rfl ok26 rfl) <| .cons rfl (r_store [] rfl rfl rfl rfl rfl rfl rfl rfl ok26 rfl rfl rfl rfl) <| .nil ?_
 refine AW.sub [(1, _), (2, _), (4, _), (5, _)] ⟨rfl, rfl, rfl, rfl, trivial⟩ ?_
 refine AW.seq ?_
 refine AW.seq (AW.reg hn hfx rfl ?_)
 refine .cons rfl (r_field rfl rfl rfl rfl ok26 rfl rfl) <| .cons rfl (r_load rfl rfl rfl rfl ok24 rfl) <| .cons rfl (r_len rfl rfl ok24 rfl) <| .cons rfl (r_copy (.inl rfl) rfl rfl) <| .nil ?_
 refine AW.sub [(1, _), (2, _), (4, _), (5, _), (16, _), (17, _), (18, _)] ⟨rfl, rfl, rfl, rfl, rfl, rfl, rfl, trivial⟩ ?_
 obtain ⟨z242, h1, h0⟩ := bindE h0
 refine AW.joinJ [(4, _)] ⟨rfl, trivial⟩ [(5, .val (.ptr ty26) 3 z242)] ?_ ?_
 ·refine AW.block ?_
  refine AW.loopP h1 [(1, _), (2, _), (4, _), (16, _), (17, _)] ⟨rfl, rfl, rfl, rfl, rfl, trivial⟩ (fun s362 => [(5, .val (.ptr ty26) 3 s362.1), (18, .val tInt 0 s362.2)]) ⟨rfl, rfl, rfl, rfl, rfl, rfl, rfl, trivial⟩ fun s362 z481 h2 => ?_
  refine AW.seq (AW.reg hn hfx rfl ?_)
  refine .cons rfl (r_cmp rfl rfl rfl rfl rfl) <| .nil ?_
  refine AW.sub [(1, _), (2, _), (4, _), (5, _), (16, _), (17, _), (18, _), (19, _)] ⟨rfl, rfl, rfl, rfl, rfl, rfl, rfl, rfl, trivial⟩ ?_
  refine AW.seq (AW.ifP rfl h2 (fun h2 => ?_) (fun h2 => ?_))
  ·refine AW.skip ?_
   refine AW.seq (AW.block ?_)
   refine AW.seq (AW.reg hn hfx rfl ?_)
   refine .cons rfl (r_copy (.inl rfl) rfl rfl) ?_
   obtain ⟨x363, hx363, h2⟩ := bindE h2
   refine .cons rfl (r_index_shared rfl rfl rfl ok24 (idx_nn hx363) (idx_get hx363)) <| .cons rfl (r_load_shared rfl rfl ok72) <| .cons rfl (SR.lower 1 (r_alloc rfl ok72 rfl)) ?_
   refine RT.sub [(1, _), (2, _), (4, _), (5, _), (7, _), (16, _), (17, _), (18, _), (20, _), (22, _)] ⟨rfl, rfl, rfl, rfl, rfl, rfl, rfl, rfl, rfl, rfl, trivial⟩ ?_
   refine .cons rfl (r_copy (.inr rfl) rfl rfl) <| .cons rfl (r_store [] rfl rfl rfl rfl rfl rfl rfl rfl ok72 rfl rfl rfl rfl) <| .nil ?_
   refine AW.sub [(1, _), (2, _), (4, _), (5, _), (6, _), (7, _), (16, _), (17, _), (18, _)] ⟨rfl, rfl, rfl, rfl, rfl, rfl, rfl, rfl, rfl, trivial⟩ ?_
   refine AW.seq (AW.reg hn hfx rfl ?_)
   refine .cons rfl (r_field rfl rfl rfl rfl ok72 rfl rfl) <| .cons rfl (r_load rfl rfl rfl rfl ok38 rfl) <| .cons rfl (r_len rfl rfl ok38 rfl) <| .cons rfl (r_copy (.inl rfl) rfl rfl) <| .nil ?_
   refine AW.sub [(1, _), (2, _), (4, _), (5, _), (6, _), (7, _), (16, _), (17, _), (18, _), (24, _), (25, _), (26, _)] ⟨rfl, rfl, rfl, rfl, rfl, rfl, rfl, rfl, rfl, rfl, rfl, rfl, trivial⟩ ?_
   obtain ⟨z422, h3, h2⟩ := bindE h2
   refine AW.joinJ [(1, _), (2, _), (4, _), (16, _), (17, _), (18, _)] ⟨rfl, rfl, rfl, rfl, rfl, rfl, trivial⟩ [(5, .val (.ptr ty26) 3 z422)] ?_ ?_
   ·refine AW.block ?_
    refine AW.loopP h3 [(1, _), (2, _), (4, _), (6, _), (7, _), (16, _), (17, _), (18, _), (24, _), (25, _)] ⟨rfl, rfl, rfl, rfl, rfl, rfl, rfl, rfl, rfl, rfl, trivial⟩ (fun s451 => [(5, .val (.ptr ty26) 3 s451.1), (26, .val tInt 0 s451.2)]) ⟨rfl, rfl, rfl, rfl, rfl, rfl, rfl, rfl, rfl, rfl, rfl, rfl, trivial⟩ fun s451 z479 h4 => ?_
    refine AW.seq (AW.reg hn hfx rfl ?_)
    refine .cons rfl (r_cmp rfl rfl rfl rfl rfl) <| .nil ?_
    refine AW.sub [(1, _), (2, _), (4, _), (5, _), (6, _), (7, _), (16, _), (17, _), (18, _), (24, _), (25, _), (26, _), (27, _)] ⟨rfl, rfl, rfl, rfl, rfl, rfl, rfl, rfl, rfl, rfl, rfl, rfl, rfl, trivial⟩ ?_
    refine AW.seq (AW.ifP rfl h4 (fun h4 => ?_) (fun h4 => ?_))
    ·refine AW.skip ?_
     refine AW.seq (AW.block ?_)
     refine AW.seq (AW.reg hn hfx rfl ?_)
     refine .cons rfl (r_copy (.inl rfl) rfl rfl) ?_
     obtain ⟨x452, hx452, h4⟩ := bindE h4
     refine .cons rfl (r_index_shared rfl rfl rfl ok38 (idx_nn hx452) (idx_get hx452)) <| .cons rfl (r_load_shared rfl rfl ok3) <| .cons rfl (r_copy (.inr rfl) rfl rfl) ?_
     refine RT.sub [(1, _), (2, _), (4, _), (5, _), (6, _), (7, _), (8, _), (16, _), (17, _), (18, _), (24, _), (25, _), (26, _), (30, _)] ⟨rfl, rfl, rfl, rfl, rfl, rfl, rfl, rfl, rfl, rfl, rfl, rfl, rfl, rfl, trivial⟩ ?_
     refine .cons rfl (r_copy (.inr rfl) rfl rfl) <| .nil ?_
     refine AW.sub [(1, _), (2, _), (4, _), (5, _), (6, _), (7, _), (8, _), (9, _), (16, _), (17, _), (18, _), (24, _), (25, _), (26, _)] ⟨rfl, rfl, rfl, rfl, rfl, rfl, rfl, rfl, rfl, rfl, rfl, rfl, rfl, rfl, trivial⟩ ?_
     refine AW.seq (AW.reg hn hfx rfl ?_)
     refine .cons rfl (r_copy (.inl rfl) rfl rfl) <| .cons rfl (r_field rfl rfl rfl rfl ok72 rfl rfl) <| .cons rfl (r_load rfl rfl rfl rfl ok3 rfl) <| .cons rfl (r_field rfl rfl rfl rfl ok26 rfl rfl) ?_
     refine RT.sub [(1, _), (2, _), (4, _), (5, _), (6, _), (7, _), (9, _), (16, _), (17, _), (18, _), (24, _), (25, _), (26, _), (31, _), (33, _), (34, _)] ⟨rfl, rfl, rfl, rfl, rfl, rfl, rfl, rfl, rfl, rfl, rfl, rfl, rfl, rfl, rfl, rfl, trivial⟩ ?_
     refine .cons rfl (r_load rfl rfl rfl rfl ok3 rfl) ?_
     obtain ⟨x453, hx453, h4⟩ := bindE h4
     refine .cons rfl (r_call rfl rfl rfl Try.func78 rfl rfl (W78 hx453) rfl) <| .cons rfl (r_assign [] (.inl rfl) rfl rfl) <| .nil ?_
     refine AW.sub [(1, _), (2, _), (4, _), (5, _), (6, _), (7, _), (9, _), (10, _), (16, _), (17, _), (18, _), (24, _), (25, _), (26, _)] ⟨rfl, rfl, rfl, rfl, rfl, rfl, rfl, rfl, rfl, rfl, rfl, rfl, rfl, rfl, trivial⟩ ?_
     refine AW.seq ?_
     refine AW.seq (AW.reg hn hfx rfl ?_)
     refine .cons rfl (r_alias rfl rfl) <| .cons rfl (r_len_own rfl rfl rfl rfl ok38 rfl) <| .cons rfl (r_copy (.inl rfl) rfl rfl) <| .nil ?_
     refine AW.sub [(1, _), (2, _), (4, _), (5, _), (6, _), (7, _), (9, _), (10, _), (16, _), (17, _), (18, _), (24, _), (25, _), (26, _), (37, _), (38, _), (39, _)] ⟨rfl, rfl, rfl, rfl, rfl, rfl, rfl, rfl, rfl, rfl, rfl, rfl, rfl, rfl, rfl, rfl, rfl, trivial⟩ ?_
     obtain ⟨z464, h5, h4⟩ := bindE h4
     refine AW.joinJ [(1, _), (2, _), (4, _), (5, _), (6, _), (7, _), (9, _), (16, _), (17, _), (18, _), (24, _), (25, _), (26, _)] ⟨rfl, rfl, rfl, rfl, rfl, rfl, rfl, rfl, rfl, rfl, rfl, rfl, rfl, trivial⟩ [(10, .val ty38 1 z464)] ?_ ?_
     ·refine AW.block ?_
      refine AW.loopP h5 [(1, _), (2, _), (4, _), (5, _), (6, _), (7, _), (9, _), (16, _), (17, _), (18, _), (24, _), (25, _), (26, _), (37, _), (38, _)] ⟨rfl, rfl, rfl, rfl, rfl, rfl, rfl, rfl, rfl, rfl, rfl, rfl, rfl, rfl, rfl, trivial⟩ (fun s469 => [(10, .val ty38 1 s469.1), (39, .val tInt 0 s469.2)]) ⟨rfl, rfl, rfl, rfl, rfl, rfl, rfl, rfl, rfl, rfl, rfl, rfl, rfl, rfl, rfl, rfl, rfl, trivial⟩ fun s469 z473 h6 => ?_
      refine AW.seq (AW.reg hn hfx rfl ?_)
      refine .cons rfl (r_cmp rfl rfl rfl rfl rfl) <| .nil ?_
      refine AW.sub [(1, _), (2, _), (4, _), (5, _), (6, _), (7, _), (9, _), (10, _), (16, _), (17, _), (18, _), (24, _), (25, _), (26, _), (37, _), (38, _), (39, _), (40, _)] ⟨rfl, rfl, rfl, rfl, rfl, rfl, rfl, rfl, rfl, rfl, rfl, rfl, rfl, rfl, rfl, rfl, rfl, rfl, trivial⟩ ?_
      refine AW.seq (AW.ifP rfl h6 (fun h6 => ?_) (fun h6 => ?_))
      ·refine AW.skip ?_
       refine AW.seq (AW.block ?_)
       refine AW.seq (AW.reg hn hfx rfl ?_)
       refine .cons rfl (r_copy (.inl rfl) rfl rfl) ?_
       obtain ⟨x470, hx470, h6⟩ := bindE h6
       refine .cons rfl (r_index_own rfl rfl rfl rfl rfl ok38 (idx_nn hx470) (idx_lt hx470)) <| .cons rfl (r_load rfl rfl rfl (sub_app rfl (sub_e (idx_get hx470))) ok3 rfl) <| .cons rfl (r_copy (.inr rfl) rfl rfl) ?_
       refine RT.sub [(1, _), (2, _), (4, _), (5, _), (6, _), (7, _), (9, _), (10, _), (11, _), (16, _), (17, _), (18, _), (24, _), (25, _), (26, _), (37, _), (38, _), (39, _), (43, _)] ⟨rfl, rfl, rfl, rfl, rfl, rfl, rfl, rfl, rfl, rfl, rfl, rfl, rfl, rfl, rfl, rfl, rfl, rfl, rfl, trivial⟩ ?_
       refine .cons rfl (r_copy (.inr rfl) rfl rfl) <| .nil ?_
       refine AW.sub [(1, _), (2, _), (4, _), (5, _), (6, _), (7, _), (9, _), (10, _), (11, _), (12, _), (16, _), (17, _), (18, _), (24, _), (25, _), (26, _), (37, _), (38, _), (39, _)] ⟨rfl, rfl, rfl, rfl, rfl, rfl, rfl, rfl, rfl, rfl, rfl, rfl, rfl, rfl, rfl, rfl, rfl, rfl, rfl, trivial⟩ ?_
       refine AW.reg hn hfx rfl ?_
       refine .cons rfl (r_alias rfl rfl) <| .cons rfl (r_copy (.inl rfl) rfl rfl) <| .cons rfl (r_copy (.inl rfl) rfl rfl) <| .cons rfl (r_copy (.inl rfl) rfl rfl) ?_
       refine RT.sub [(1, _), (2, _), (4, _), (5, _), (6, _), (7, _), (9, _), (10, _), (16, _), (17, _), (18, _), (24, _), (25, _), (26, _), (37, _), (38, _), (39, _), (44, _), (45, _), (46, _), (47, _)] ⟨rfl, rfl, rfl, rfl, rfl, rfl, rfl, rfl, rfl, rfl, rfl, rfl, rfl, rfl, rfl, rfl, rfl, rfl, rfl, rfl, rfl, trivial⟩ ?_
       obtain ⟨x471, hx471, h6⟩ := bindE h6
       refine .cons rfl (r_index_shared rfl rfl rfl ok38 (idx_nn hx471) (idx_get hx471)) <| .cons rfl (r_load_shared rfl rfl ok3) ?_
       obtain ⟨x472, hx472, h6⟩ := bindE h6
       refine .cons rfl (r_index_own rfl rfl rfl rfl rfl ok38 (idx_nn hx472) (idx_lt hx472)) <| .cons rfl (r_store [] rfl rfl rfl rfl rfl rfl rfl (sub_app rfl (sub_e (idx_get hx472))) ok3 rfl rfl rfl (repl_app rfl (repl_e (idx_get hx472)) rfl)) <| .nil ?_
       refine AW.sub [(1, _), (2, _), (4, _), (5, _), (6, _), (7, _), (9, _), (10, _), (16, _), (17, _), (18, _), (24, _), (25, _), (26, _), (37, _), (38, _), (39, _)] ⟨rfl, rfl, rfl, rfl, rfl, rfl, rfl, rfl, rfl, rfl, rfl, rfl, rfl, rfl, rfl, rfl, rfl, trivial⟩ ?_
       refine AW.reg hn hfx rfl ?_
       refine .cons rfl (r_arith rfl rfl rfl rfl rfl) <| .cons rfl (r_copy (.inl rfl) rfl rfl) <| .nil ?_
       exact ⟨_, (Option.some.inj h6).symm, ⟨rfl, rfl, rfl, rfl, rfl, rfl, rfl, rfl, rfl, rfl, rfl, rfl, rfl, rfl, rfl, rfl, rfl, trivial⟩⟩
      ·refine AW.exit ?_
       refine ⟨_, (Option.some.inj h6).symm, fun hz => ?_⟩
       subst hz
       exact ⟨rfl, rfl, rfl, rfl, rfl, rfl, rfl, rfl, rfl, rfl, rfl, rfl, rfl, rfl, trivial⟩
     ·intro l1 hl1
      refine AW.weaken hl1.sub ?_
      refine AW.draw hmix hn hfx rfl rfl ?_
      refine .cons rfl (r_field rfl rfl rfl rfl ok26 rfl rfl) rfl rfl rfl <| .cons rfl (r_load_ref rfl rfl rfl rfl ok24) rfl rfl rfl <| .cons rfl (r_copy (.inl rfl) rfl rfl) rfl rfl rfl ?_
      obtain ⟨x475, hx475, h4⟩ := bindE h4
      refine .cons rfl (r_index_own rfl rfl rfl rfl rfl ok24 (idx_nn hx475) (idx_lt hx475)) rfl rfl rfl ?_
      refine DT.eq [(55, _), (54, _), (53, _), (52, _), (10, _), (1, _), (2, _), (4, _), (5, _), (6, _), (7, _), (9, _), (16, _), (17, _), (18, _), (24, _), (25, _), (26, _)] rfl ?_
      refine .cons rfl (r_field rfl rfl rfl (sub_app rfl (sub_e (idx_get hx475))) ok72 rfl rfl) rfl rfl rfl <| .cons rfl (r_load_ref rfl rfl rfl (sub_app (sub_app rfl (sub_e (idx_get hx475))) rfl) ok38) rfl rfl rfl <| .cons rfl (r_aliasF rfl) rfl rfl rfl <| .cons rfl (r_field rfl rfl rfl rfl ok26 rfl rfl) rfl rfl rfl ?_
      refine DT.eq [(59, _), (58, _), (57, _), (56, _), (55, _), (54, _), (53, _), (52, _), (10, _), (1, _), (2, _), (4, _), (5, _), (6, _), (7, _), (9, _), (16, _), (17, _), (18, _), (24, _), (25, _), (26, _)] rfl ?_
      refine .cons rfl (r_load rfl rfl rfl rfl ok3 rfl) rfl rfl rfl ?_
      obtain ⟨x476, hx476, h4⟩ := bindE h4
      refine .cons rfl (r_call rfl rfl rfl Try.func79 rfl rfl (W79 hx476) rfl) rfl rfl rfl <| .cons rfl (r_copy (.inl rfl) rfl rfl) rfl rfl rfl <| .cons rfl (r_copy (.inl rfl) rfl rfl) rfl rfl rfl ?_
      refine DT.eq [(63, _), (62, _), (61, _), (60, _), (59, _), (58, _), (57, _), (56, _), (55, _), (54, _), (53, _), (52, _), (10, _), (1, _), (2, _), (4, _), (5, _), (6, _), (7, _), (9, _), (16, _), (17, _), (18, _), (24, _), (25, _), (26, _)] rfl ?_
      obtain ⟨x477, hx477, h4⟩ := bindE h4
      refine .cons rfl (r_index_shared rfl rfl rfl ok38 (idx_nn hx477) (idx_get hx477)) rfl rfl rfl <| .cons rfl (r_load_shared rfl rfl ok3) rfl rfl rfl ?_
      obtain ⟨x478, hx478, h4⟩ := bindE h4
      refine .cons rfl (r_index_own rfl rfl rfl (sub_app (sub_app rfl (sub_e (idx_get hx475))) rfl) rfl ok38 (idx_nn hx478) (idx_lt hx478)) rfl rfl rfl <| .cons rfl (r_store [] rfl rfl rfl rfl rfl rfl rfl (sub_app (sub_app (sub_app rfl (sub_e (idx_get hx475))) rfl) (sub_e (idx_get hx478))) ok3 rfl rfl rfl (repl_app (sub_app (sub_app rfl (sub_e (idx_get hx475))) rfl) (repl_e (idx_get hx478)) (repl_app (sub_app rfl (sub_e (idx_get hx475))) rfl (repl_app rfl (repl_e (idx_get hx475)) rfl)))) rfl rfl rfl <| .nil rfl ?_
      refine AW.sub [(1, _), (2, _), (4, _), (5, _), (6, _), (7, _), (16, _), (17, _), (18, _), (24, _), (25, _), (26, _)] ⟨rfl, rfl, rfl, rfl, rfl, rfl, rfl, rfl, rfl, rfl, rfl, rfl, trivial⟩ ?_
      refine AW.reg hn hfx rfl ?_
      refine .cons rfl (r_arith rfl rfl rfl rfl rfl) <| .cons rfl (r_copy (.inl rfl) rfl rfl) <| .nil ?_
      exact ⟨_, (Option.some.inj h4).symm, ⟨rfl, rfl, rfl, rfl, rfl, rfl, rfl, rfl, rfl, rfl, rfl, rfl, trivial⟩⟩
    ·refine AW.exit ?_
     refine ⟨_, (Option.some.inj h4).symm, fun hz => ?_⟩
     subst hz
     exact ⟨rfl, rfl, rfl, rfl, rfl, rfl, rfl, trivial⟩
   ·intro l1 hl1
    refine AW.weaken hl1.sub ?_
    refine AW.reg hn hfx rfl ?_
    refine .cons rfl (r_arith rfl rfl rfl rfl rfl) <| .cons rfl (r_copy (.inl rfl) rfl rfl) <| .nil ?_
    exact ⟨_, (Option.some.inj h2).symm, ⟨rfl, rfl, rfl, rfl, rfl, rfl, rfl, trivial⟩⟩
  ·refine AW.exit ?_
   refine ⟨_, (Option.some.inj h2).symm, fun hz => ?_⟩
   subst hz
   exact ⟨rfl, rfl, trivial⟩
 ·intro l1 hl1
  refine AW.weaken hl1.sub ?_
  refine AW.seq (AW.reg hn hfx rfl ?_)
  refine .cons rfl (r_load_ref rfl rfl rfl rfl ok26) <| .cons rfl (r_store [69] rfl rfl rfl rfl rfl rfl rfl rfl ok26 rfl rfl rfl rfl) <| .nil ?_
  refine AW.sub [(4, _)] ⟨rfl, trivial⟩ ?_
  refine AW.ret ?_
  obtain rfl := Option.some.inj h0
  exact ⟨_, .cell rfl ok26 .nil, .inl ⟨rfl, rfl⟩, .inl ⟨rfl, rfl⟩, trivial⟩

theorem W61  {a : (Int × ((List (Int × ((List Int) × Unit))) × Unit))} {r : (List Int)} (h0 : impl_codeOf a = some r) : Meets Try.prog 61 [⟨ty26, 0, a⟩] [⟨ty38, 1, r⟩] [⟨ty26, 0, a⟩] := by
 refine Meets.of_body (fn := Try.f61) Try.func61 rfl rfl rfl fun c hn hfx => ?_
 unfold impl_codeOf at h0
 refine AW.seq (AW.reg hn hfx rfl ?_)
 refine .cons rfl (r_box [] rfl rfl rfl) <| .cons rfl (r_nilS (m := 1) (.inr rfl) ok38) <| .nil ?_
 refine AW.sub [(1, _)] ⟨rfl, trivial⟩ ?_
 refine AW.seq (AW.reg hn hfx rfl ?_)
 refine .cons rfl (r_buildSlice [] (e := tInt) (mc := 0) rfl rfl rfl ok38 rfl rfl rfl) <| .cons rfl (r_assign [] (.inl rfl) rfl rfl) <| .nil ?_
 refine AW.sub [(1, _), (3, _)] ⟨rfl, rfl, trivial⟩ ?_
 refine AW.seq ?_
 refine AW.seq (AW.reg hn hfx rfl ?_)
 refine .cons rfl (r_field rfl rfl rfl rfl ok26 rfl rfl) <| .cons rfl (r_load rfl rfl rfl rfl ok24 rfl) <| .cons rfl (r_len rfl rfl ok24 rfl) <| .cons rfl (r_copy (.inl rfl) rfl rfl) <| .nil ?_
 refine AW.sub [(3, _), (8, _), (9, _), (10, _)] ⟨rfl, rfl, rfl, rfl, trivial⟩ ?_
 obtain ⟨z9, h1, h0⟩ := bindE h0
 refine AW.joinJ [] trivial [(3, .val ty38 1 z9)] ?_ ?_
 ·refine AW.block ?_
  refine AW.loopP h1 [(8, _), (9, _)] ⟨rfl, rfl, trivial⟩ (fun s13 => [(3, .val ty38 1 s13.1), (10, .val tInt 0 s13.2)]) ⟨rfl, rfl, rfl, rfl, trivial⟩ fun s13 z16 h2 => ?_
  refine AW.seq (AW.reg hn hfx rfl ?_)
  refine .cons rfl (r_cmp rfl rfl rfl rfl rfl) <| .nil ?_
  refine AW.sub [(3, _), (8, _), (9, _), (10, _), (11, _)] ⟨rfl, rfl, rfl, rfl, rfl, trivial⟩ ?_
  refine AW.seq (AW.ifP rfl h2 (fun h2 => ?_) (fun h2 => ?_))
  ·refine AW.skip ?_
   refine AW.seq (AW.block ?_)
   refine AW.seq (AW.reg hn hfx rfl ?_)
   obtain ⟨x14, hx14, h2⟩ := bindE h2
   refine .cons rfl (r_index_shared rfl rfl rfl ok24 (idx_nn hx14) (idx_get hx14)) <| .cons rfl (r_load_shared rfl rfl ok72) <| .cons rfl (SR.lower 1 (r_alloc rfl ok72 rfl)) <| .cons rfl (r_store [] rfl rfl rfl rfl rfl rfl rfl rfl ok72 rfl rfl rfl rfl) <| .nil ?_
   refine AW.sub [(3, _), (5, _), (8, _), (9, _), (10, _)] ⟨rfl, rfl, rfl, rfl, rfl, trivial⟩ ?_
   refine AW.reg hn hfx rfl ?_
   refine .cons rfl (r_alias rfl rfl) <| .cons rfl (r_field rfl rfl rfl rfl ok72 rfl rfl) <| .cons rfl (r_load rfl rfl rfl rfl ok38 rfl) ?_
   obtain ⟨x15, hx15, h2⟩ := bindE h2
   refine .cons rfl (r_append [] rfl rfl rfl ok38 rfl (mr := 0) rfl rfl (app_len hx15) (app_eq hx15)) ?_
   refine RT.sub [(8, _), (9, _), (10, _), (17, _)] ⟨rfl, rfl, rfl, rfl, trivial⟩ ?_
   refine .cons rfl (r_assign [] (.inl rfl) rfl rfl) <| .nil ?_
   refine AW.sub [(3, _), (8, _), (9, _), (10, _)] ⟨rfl, rfl, rfl, rfl, trivial⟩ ?_
   refine AW.reg hn hfx rfl ?_
   refine .cons rfl (r_arith rfl rfl rfl rfl rfl) <| .cons rfl (r_copy (.inl rfl) rfl rfl) <| .nil ?_
   exact ⟨_, (Option.some.inj h2).symm, ⟨rfl, rfl, rfl, rfl, trivial⟩⟩
  ·refine AW.exit ?_
   refine ⟨_, (Option.some.inj h2).symm, fun hz => ?_⟩
   subst hz
   exact ⟨rfl, trivial⟩
 ·intro l1 hl1
  refine AW.weaken hl1.sub ?_
  refine AW.seq (AW.reg hn hfx rfl ?_)
  refine .cons rfl (r_alias rfl rfl) <| .cons rfl (r_assign [19] (.inl rfl) rfl rfl) <| .nil ?_
  refine AW.sub [(2, _)] ⟨rfl, trivial⟩ ?_
  refine AW.ret ?_
  obtain rfl := Option.some.inj h0
  exact ⟨_, .tmp rfl rfl .nil, .inl ⟨rfl, rfl⟩, trivial⟩

end Go.Proofs.Ytoaajjhcdbbfdaa
namespace Go.Proofs.Ytoaajjhcdbbfdaa
open Go.Abs Go.Pure
-- theorem hmix : Try.prog.follows .mixedOrders = true := by kernel_rfl
theorem W62  {s : (List Int)} {t : (List Int)} {r : Int} (h0 : impl_compareLists s t = some r) : Meets Try.prog 62 [⟨ty38, 0, s⟩, ⟨ty38, 0, t⟩] [⟨tInt, 0, r⟩] [⟨ty38, 0, s⟩, ⟨ty38, 0, t⟩] := by
 refine Meets.of_body (fn := Try.f62) Try.func62 rfl rfl rfl fun c hn hfx => ?_
 unfold impl_compareLists at h0
 refine AW.seq (AW.reg hn hfx rfl ?_)
 refine .cons rfl (r_copy (.inr rfl) rfl rfl) <| .nil ?_
 refine AW.sub [(0, _), (1, _)] ⟨rfl, rfl, trivial⟩ ?_
 refine AW.seq ?_
 refine AW.seq (AW.reg hn hfx rfl ?_)
 refine .cons rfl (r_copy (.inr rfl) rfl rfl) <| .nil ?_
 refine AW.sub [(0, _), (1, _), (5, _)] ⟨rfl, rfl, rfl, trivial⟩ ?_
 obtain ⟨z19, h1, h0⟩ := bindE h0
 refine AW.joinX z19 [(0, _), (1, _)] ⟨rfl, rfl, trivial⟩ (fun s18 => []) ?_ ?_
 ·refine AW.block ?_
  refine AW.loopP h1 [(0, _), (1, _)] ⟨rfl, rfl, trivial⟩ (fun s28 => [(5, .val tInt 0 s28)]) ⟨rfl, rfl, rfl, trivial⟩ fun s28 z36 h2 => ?_
  refine AW.seq ?_
  refine AW.sub [(0, _), (1, _), (5, _)] ⟨rfl, rfl, rfl, trivial⟩ ?_
  obtain ⟨z30, h3, h2⟩ := bindE h2
  refine AW.seq (AW.joinJ [(0, _), (1, _), (5, _)] ⟨rfl, rfl, rfl, trivial⟩ [(15, .val .bool 0 z30)] ?_ ?_)
  ·refine AW.reg hn hfx rfl ?_
   refine .cons rfl (r_copy (.inl rfl) rfl rfl) <| .cons rfl (r_copy (.inl rfl) rfl rfl) <| .cons rfl (r_len rfl rfl ok38 rfl) <| .cons rfl (r_cmp rfl rfl rfl rfl rfl) ?_
   refine RT.sub [(0, _), (1, _), (5, _), (9, _)] ⟨rfl, rfl, rfl, rfl, trivial⟩ ?_
   refine .ifP (.inl rfl) rfl rfl h3 (fun h3 => ?_) (fun h3 => ?_)
   ·refine .cons (.inl ⟨_, _, _, rfl, rfl, rfl⟩) (r_copy (.inl rfl) rfl rfl) <| .cons (.inl ⟨_, _, _, rfl, rfl, rfl⟩) (r_copy (.inl rfl) rfl rfl) <| .cons (.inl ⟨_, _, _, rfl, rfl, rfl⟩) (r_len rfl rfl ok38 rfl) ?_
    refine RT.sub [(0, _), (1, _), (5, _), (10, _), (11, _), (13, _)] ⟨rfl, rfl, rfl, rfl, rfl, rfl, trivial⟩ ?_
    refine .cons (.inl ⟨_, _, _, rfl, rfl, rfl⟩) (r_cmp rfl rfl rfl rfl rfl) <| .cons rfl (r_pick_true rfl rfl rfl rfl) <| .nil ?_
    obtain rfl := Option.some.inj h3
    exact ⟨rfl, rfl, rfl, rfl, trivial⟩
   ·refine .pass (.inl ⟨_, _, _, rfl, rfl, rfl⟩) <| .pass (.inl ⟨_, _, _, rfl, rfl, rfl⟩) <| .pass (.inl ⟨_, _, _, rfl, rfl, rfl⟩) ?_
    refine RT.sub [(0, _), (1, _), (5, _), (10, _), (11, _), (13, _)] ⟨rfl, rfl, rfl, rfl, rfl, rfl, trivial⟩ ?_
    refine .pass (.inl ⟨_, _, _, rfl, rfl, rfl⟩) <| .cons rfl (r_pick_false rfl rfl rfl rfl) <| .nil ?_
    obtain rfl := Option.some.inj h3
    exact ⟨rfl, rfl, rfl, rfl, trivial⟩
  ·intro l1 hl1
   refine AW.weaken hl1.sub ?_
   refine AW.ifP rfl h2 (fun h2 => ?_) (fun h2 => ?_)
   ·refine AW.skip ?_
    refine AW.seq (AW.block ?_)
    refine AW.seq (AW.draw hmix hn hfx rfl rfl ?_)
    refine .cons rfl (r_copy (.inl rfl) rfl rfl) rfl rfl rfl <| .cons rfl (r_copy (.inl rfl) rfl rfl) rfl rfl rfl ?_
    obtain ⟨x32, hx32, h2⟩ := bindE h2
    refine .cons rfl (r_index_shared rfl rfl rfl ok38 (idx_nn hx32) (idx_get hx32)) rfl rfl rfl <| .cons rfl (r_load_shared rfl rfl ok3) rfl rfl rfl ?_
    refine DT.eq [(21, _), (20, _), (19, _), (18, _), (15, _), (0, _), (1, _), (5, _)] rfl ?_
    refine .cons rfl (r_copy (.inl rfl) rfl rfl) rfl rfl rfl <| .cons rfl (r_copy (.inl rfl) rfl rfl) rfl rfl rfl ?_
    obtain ⟨x33, hx33, h2⟩ := bindE h2
    refine .cons rfl (r_index_shared rfl rfl rfl ok38 (idx_nn hx33) (idx_get hx33)) rfl rfl rfl <| .cons rfl (r_load_shared rfl rfl ok3) rfl rfl rfl ?_
    refine DT.eq [(25, _), (24, _), (23, _), (22, _), (21, _), (20, _), (19, _), (18, _), (15, _), (0, _), (1, _), (5, _)] rfl ?_
    refine .cons rfl (r_cmp rfl rfl rfl rfl rfl) rfl rfl rfl <| .nil rfl ?_
    refine AW.sub [(0, _), (1, _), (5, _), (26, _)] ⟨rfl, rfl, rfl, rfl, trivial⟩ ?_
    refine AW.ifP rfl h2 (fun h2 => ?_) (fun h2 => ?_)
    ·refine AW.seq ?_
     refine AW.seq (AW.draw hmix hn hfx rfl rfl ?_)
     refine .cons rfl (r_copy (.inl rfl) rfl rfl) rfl rfl rfl <| .cons rfl (r_copy (.inl rfl) rfl rfl) rfl rfl rfl ?_
     obtain ⟨x34, hx34, h2⟩ := bindE h2
     refine .cons rfl (r_index_shared rfl rfl rfl ok38 (idx_nn hx34) (idx_get hx34)) rfl rfl rfl <| .cons rfl (r_load_shared rfl rfl ok3) rfl rfl rfl ?_
     refine DT.eq [(30, _), (29, _), (28, _), (27, _), (0, _), (1, _), (5, _), (26, _)] rfl ?_
     refine .cons rfl (r_copy (.inl rfl) rfl rfl) rfl rfl rfl <| .cons rfl (r_copy (.inl rfl) rfl rfl) rfl rfl rfl ?_
     obtain ⟨x35, hx35, h2⟩ := bindE h2
     refine .cons rfl (r_index_shared rfl rfl rfl ok38 (idx_nn hx35) (idx_get hx35)) rfl rfl rfl <| .cons rfl (r_load_shared rfl rfl ok3) rfl rfl rfl ?_
     refine DT.eq [(34, _), (33, _), (32, _), (31, _), (30, _), (29, _), (28, _), (27, _), (0, _), (1, _), (5, _), (26, _)] rfl ?_
     refine .cons rfl (r_cmp rfl rfl rfl rfl rfl) rfl rfl rfl <| .nil rfl ?_
     refine AW.sub [(35, _)] ⟨rfl, trivial⟩ ?_
     refine AW.ifP rfl h2 (fun h2 => ?_) (fun h2 => ?_)
     ·refine AW.seq (AW.reg hn hfx rfl ?_)
      refine .cons rfl (r_copy (.inr rfl) rfl rfl) <| .nil ?_
      refine AW.sub [(4, _)] ⟨rfl, trivial⟩ ?_
      refine AW.ret ?_
      refine ⟨_, (Option.some.inj h2).symm, fun hz => ?_⟩
      subst hz
      obtain rfl := Option.some.inj h0
      exact ⟨_, .tmp rfl rfl .nil, .inl ⟨rfl, rfl⟩, .inl ⟨rfl, rfl⟩, trivial⟩
     ·refine AW.skip ?_
      refine AW.seq (AW.reg hn hfx rfl ?_)
      refine .cons rfl (r_copy (.inr rfl) rfl rfl) <| .nil ?_
      refine AW.sub [(4, _)] ⟨rfl, trivial⟩ ?_
      refine AW.ret ?_
      refine ⟨_, (Option.some.inj h2).symm, fun hz => ?_⟩
      subst hz
      obtain rfl := Option.some.inj h0
      exact ⟨_, .tmp rfl rfl .nil, .inl ⟨rfl, rfl⟩, .inl ⟨rfl, rfl⟩, trivial⟩
    ·refine AW.skip ?_
     refine AW.reg hn hfx rfl ?_
     refine .cons rfl (r_copy (.inl rfl) rfl rfl) <| .cons rfl (r_arith rfl rfl rfl rfl rfl) <| .cons rfl (r_copy (.inr rfl) rfl rfl) <| .nil ?_
     exact ⟨_, (Option.some.inj h2).symm, ⟨rfl, rfl, rfl, trivial⟩⟩
   ·refine AW.exit ?_
    refine ⟨_, (Option.some.inj h2).symm, fun hz => ?_⟩
    subst hz
    exact ⟨_, rfl, ⟨rfl, rfl, trivial⟩⟩
 ·rintro s18 rfl l1 hl1
  refine AW.weaken hl1.sub ?_
  refine AW.seq (AW.block ?_)
  refine AW.seq (AW.reg hn hfx rfl ?_)
  refine .cons rfl (r_copy (.inl rfl) rfl rfl) <| .cons rfl (r_len rfl rfl ok38 rfl) <| .cons rfl (r_copy (.inl rfl) rfl rfl) <| .cons rfl (r_len rfl rfl ok38 rfl) ?_
  refine RT.sub [(0, _), (1, _), (38, _), (40, _)] ⟨rfl, rfl, rfl, rfl, trivial⟩ ?_
  refine .cons rfl (r_cmp rfl rfl rfl rfl rfl) <| .cons rfl (r_copy (.inr rfl) rfl rfl) <| .nil ?_
  refine AW.sub [(0, _), (1, _), (36, _)] ⟨rfl, rfl, rfl, trivial⟩ ?_
  refine AW.ifP rfl h0 (fun h0 => ?_) (fun h0 => ?_)
  ·refine AW.seq (AW.reg hn hfx rfl ?_)
   refine .cons rfl (r_copy (.inr rfl) rfl rfl) <| .nil ?_
   refine AW.sub [(4, _)] ⟨rfl, trivial⟩ ?_
   refine AW.ret ?_
   obtain rfl := Option.some.inj h0
   exact ⟨_, .tmp rfl rfl .nil, .inl ⟨rfl, rfl⟩, .inl ⟨rfl, rfl⟩, trivial⟩
  ·refine AW.seq (AW.reg hn hfx rfl ?_)
   refine .cons rfl (r_copy (.inl rfl) rfl rfl) <| .cons rfl (r_len rfl rfl ok38 rfl) <| .cons rfl (r_copy (.inl rfl) rfl rfl) <| .cons rfl (r_len rfl rfl ok38 rfl) ?_
   refine RT.sub [(44, _), (46, _)] ⟨rfl, rfl, trivial⟩ ?_
   refine .cons rfl (r_cmp rfl rfl rfl rfl rfl) <| .cons rfl (r_copy (.inr rfl) rfl rfl) <| .nil ?_
   refine AW.sub [(42, _)] ⟨rfl, trivial⟩ ?_
   refine AW.ifP rfl h0 (fun h0 => ?_) (fun h0 => ?_)
   ·refine AW.seq (AW.reg hn hfx rfl ?_)
    refine .cons rfl (r_copy (.inr rfl) rfl rfl) <| .nil ?_
    refine AW.sub [(4, _)] ⟨rfl, trivial⟩ ?_
    refine AW.ret ?_
    obtain rfl := Option.some.inj h0
    exact ⟨_, .tmp rfl rfl .nil, .inl ⟨rfl, rfl⟩, .inl ⟨rfl, rfl⟩, trivial⟩
   ·refine AW.skip ?_
    refine AW.seq (AW.reg hn hfx rfl ?_)
    refine .cons rfl (r_copy (.inr rfl) rfl rfl) <| .nil ?_
    refine AW.sub [(4, _)] ⟨rfl, trivial⟩ ?_
    refine AW.ret ?_
    obtain rfl := Option.some.inj h0
    exact ⟨_, .tmp rfl rfl .nil, .inl ⟨rfl, rfl⟩, .inl ⟨rfl, rfl⟩, trivial⟩

theorem W60  {names : (List Int)} {u1v : (Int × ((List (Int × ((List Int) × Unit))) × Unit))} {u2v : (Option (List Int))} {u3v : (List Int)} {u4v : (Int × ((List (Int × ((List Int) × Unit))) × Unit))} {r : ((Option (List Int)) × (List Int) × (Int × ((List (Int × ((List Int) × Unit))) × Unit)))} (h0 : impl_canonical_1 names u1v u2v u3v u4v = some r) : Meets Try.prog 60 [⟨ty38, 0, names⟩, ⟨(.ptr ty26), 0, u1v⟩, ⟨(.ptr (.opt ty38)), 2, u2v⟩, ⟨(.ptr ty38), 2, u3v⟩, ⟨(.ptr ty26), 3, u4v⟩] [] [⟨ty38, 0, names⟩, ⟨(.ptr ty26), 0, u1v⟩, ⟨(.ptr (.opt ty38)), 2, r.1⟩, ⟨(.ptr ty38), 2, r.2.1⟩, ⟨(.ptr ty26), 3, r.2.2⟩] := by
 refine Meets.of_body (fn := Try.f60) Try.func60 rfl rfl rfl fun c hn hfx => ?_
 unfold impl_canonical_1 at h0
 refine AW.seq (AW.reg hn hfx rfl ?_)
 refine .cons rfl (r_load_shared rfl rfl ok26) <| .cons rfl (r_copy (.inl rfl) rfl rfl) ?_
 obtain ⟨x1, hx1, h0⟩ := bindE h0
 refine .cons rfl (r_call rfl rfl rfl Try.func49 rfl rfl (W49 hx1) rfl) <| .cons rfl (r_alloc rfl ok26 rfl) ?_
 refine RT.sub [(0, _), (2, _), (3, _), (4, _), (6, _), (10, _)] ⟨rfl, rfl, rfl, rfl, rfl, rfl, trivial⟩ ?_
 refine .cons rfl (r_store [] rfl rfl rfl rfl rfl rfl rfl rfl ok26 rfl rfl rfl rfl) <| .nil ?_
 refine AW.sub [(0, _), (2, _), (3, _), (4, _), (6, _)] ⟨rfl, rfl, rfl, rfl, rfl, trivial⟩ ?_
 refine AW.seq (AW.reg hn hfx rfl ?_)
 refine .cons rfl (r_load_ref rfl rfl rfl rfl ok26) ?_
 obtain ⟨x2, hx2, h0⟩ := bindE h0
 refine .cons rfl (r_call rfl rfl rfl Try.func61 rfl rfl (W61 hx2) rfl) <| .cons rfl (r_assign [] (.inl rfl) rfl rfl) <| .nil ?_
 refine AW.sub [(0, _), (2, _), (3, _), (4, _), (6, _), (7, _)] ⟨rfl, rfl, rfl, rfl, rfl, rfl, trivial⟩ ?_
 obtain ⟨z5, h1, h0⟩ := bindE h0
 refine AW.seq (AW.joinJ [(0, _), (2, _), (3, _), (4, _), (6, _), (7, _)] ⟨rfl, rfl, rfl, rfl, rfl, rfl, trivial⟩ [(20, .val .bool 0 z5)] ?_ ?_)
 ·refine AW.reg hn hfx rfl ?_
  refine .cons rfl (r_load_ref rfl rfl rfl rfl ok38opt) <| .cons rfl (r_cmpNil rfl rfl rfl rfl ok38opt rfl rfl) ?_
  refine .ifP (.inl rfl) rfl rfl h1 (fun h1 => ?_) (fun h1 => ?_)
  ·refine .pass (.inl ⟨_, _, _, rfl, rfl, rfl⟩) ?_
   refine RT.sub [(0, _), (2, _), (3, _), (4, _), (6, _), (7, _), (15, _), (16, _)] ⟨rfl, rfl, rfl, rfl, rfl, rfl, rfl, rfl, trivial⟩ ?_
   refine .pass (.inl ⟨_, _, _, rfl, rfl, rfl⟩) <| .pass (.inl ⟨_, _, _, rfl, rfl, rfl⟩) <| .pass (.inl ⟨_, _, _, rfl, rfl, rfl⟩) <| .cons rfl (r_pick_true rfl rfl rfl rfl) <| .nil ?_
   obtain rfl := Option.some.inj h1
   exact ⟨rfl, rfl, rfl, rfl, rfl, rfl, rfl, trivial⟩
  ·refine .cons (.inl ⟨_, _, _, rfl, rfl, rfl⟩) (r_alias rfl rfl) ?_
   refine RT.sub [(0, _), (2, _), (3, _), (4, _), (6, _), (7, _), (15, _), (16, _)] ⟨rfl, rfl, rfl, rfl, rfl, rfl, rfl, rfl, trivial⟩ ?_
   refine .cons (.inl ⟨_, _, _, rfl, rfl, rfl⟩) (r_load_ref rfl rfl rfl rfl ok38) ?_
   obtain ⟨x6, hx6, h1⟩ := bindE h1
   refine .cons (.inl ⟨_, _, _, rfl, rfl, rfl⟩) (r_call rfl rfl rfl Try.func62 rfl rfl (W62 hx6) rfl) <| .cons (.inl ⟨_, _, _, rfl, rfl, rfl⟩) (r_cmp rfl rfl rfl rfl rfl) <| .cons rfl (r_pick_false rfl rfl rfl rfl) <| .nil ?_
   obtain rfl := Option.some.inj h1
   exact ⟨rfl, rfl, rfl, rfl, rfl, rfl, rfl, trivial⟩
 ·intro l1 hl1
  refine AW.weaken hl1.sub ?_
  refine AW.ifP rfl h0 (fun h0 => ?_) (fun h0 => ?_)
  ·refine AW.draw hmix hn hfx rfl rfl ?_
   refine .cons rfl (r_load_ref rfl rfl rfl rfl ok26) rfl rfl rfl <| .cons rfl (r_aliasF rfl) rfl rfl rfl <| .cons rfl (r_copy (.inl rfl) rfl rfl) rfl rfl rfl ?_
   obtain ⟨x8, hx8, h0⟩ := bindE h0
   refine .cons rfl (r_call rfl rfl rfl Try.func63 rfl rfl (W63 hx8) rfl) rfl rfl rfl ?_
   refine DT.eq [(24, _), (23, _), (22, _), (21, _), (20, _), (0, _), (2, _), (3, _), (4, _), (6, _), (7, _)] rfl ?_
   refine .cons rfl (r_store [21] rfl rfl rfl rfl rfl rfl rfl rfl ok26 rfl rfl rfl rfl) rfl rfl rfl <| .cons rfl (r_store [22] rfl rfl rfl rfl rfl rfl rfl rfl ok38 rfl rfl rfl rfl) rfl rfl rfl ?_
   obtain ⟨_, hx9, h0⟩ := bindE h0
   refine .cons rfl (r_storeC (v := ⟨(.opt ty38), 1, (some x8)⟩) [] rfl rfl rfl rfl rfl rfl (cast_opt (needE hx9)) rfl rfl ok38opt rfl rfl rfl rfl) rfl rfl rfl <| .nil rfl ?_
   obtain rfl := Option.some.inj h0
   exact ⟨_, .nil, .inl ⟨rfl, rfl⟩, .inl ⟨rfl, rfl⟩, .inr ⟨nofun, rfl⟩, .inr ⟨nofun, rfl⟩, .inr ⟨nofun, rfl⟩, trivial⟩
  ·refine AW.skip ?_
   obtain rfl := Option.some.inj h0
   exact ⟨_, .nil, .inl ⟨rfl, rfl⟩, .inl ⟨rfl, rfl⟩, .inr ⟨nofun, rfl⟩, .inr ⟨nofun, rfl⟩, .inr ⟨nofun, rfl⟩, trivial⟩

theorem W86  {list : (List Int)} {x : Int} {r : Bool} (h0 : impl_hasNot list x = some r) : Meets Try.prog 86 [⟨ty38, 0, list⟩, ⟨tInt, 0, x⟩] [⟨.bool, 0, r⟩] [⟨ty38, 0, list⟩, ⟨tInt, 0, x⟩] := by
 refine Meets.of_body (fn := Try.f86) Try.func86 rfl rfl rfl fun c hn hfx => ?_
 unfold impl_hasNot at h0
 refine AW.seq (AW.reg hn hfx rfl ?_)
 refine .cons rfl (r_copy (.inr rfl) rfl rfl) <| .nil ?_
 refine AW.sub [(0, _), (1, _)] ⟨rfl, rfl, trivial⟩ ?_
 refine AW.seq ?_
 refine AW.seq (AW.reg hn hfx rfl ?_)
 refine .cons rfl (r_copy (.inl rfl) rfl rfl) <| .cons rfl (r_len rfl rfl ok38 rfl) <| .cons rfl (r_copy (.inl rfl) rfl rfl) <| .nil ?_
 refine AW.sub [(1, _), (7, _), (8, _), (9, _)] ⟨rfl, rfl, rfl, rfl, trivial⟩ ?_
 obtain ⟨z7, h1, h0⟩ := bindE h0
 refine AW.joinX z7 [] trivial (fun s6 => []) ?_ ?_
 ·refine AW.block ?_
  refine AW.loopP h1 [(1, _), (7, _), (8, _)] ⟨rfl, rfl, rfl, trivial⟩ (fun s10 => [(9, .val tInt 0 s10)]) ⟨rfl, rfl, rfl, rfl, trivial⟩ fun s10 z12 h2 => ?_
  refine AW.seq (AW.reg hn hfx rfl ?_)
  refine .cons rfl (r_cmp rfl rfl rfl rfl rfl) <| .nil ?_
  refine AW.sub [(1, _), (7, _), (8, _), (9, _), (10, _)] ⟨rfl, rfl, rfl, rfl, rfl, trivial⟩ ?_
  refine AW.seq (AW.ifP rfl h2 (fun h2 => ?_) (fun h2 => ?_))
  ·refine AW.skip ?_
   refine AW.seq (AW.block ?_)
   refine AW.seq (AW.reg hn hfx rfl ?_)
   obtain ⟨x11, hx11, h2⟩ := bindE h2
   refine .cons rfl (r_index_shared rfl rfl rfl ok38 (idx_nn hx11) (idx_get hx11)) <| .cons rfl (r_load_shared rfl rfl ok3) <| .cons rfl (r_copy (.inr rfl) rfl rfl) <| .nil ?_
   refine AW.sub [(1, _), (6, _), (7, _), (8, _), (9, _)] ⟨rfl, rfl, rfl, rfl, rfl, trivial⟩ ?_
   refine AW.seq (AW.reg hn hfx rfl ?_)
   refine .cons rfl (r_copy (.inl rfl) rfl rfl) <| .cons rfl (r_copy (.inl rfl) rfl rfl) <| .cons rfl (r_cmp rfl rfl rfl rfl rfl) <| .nil ?_
   refine AW.sub [(1, _), (7, _), (8, _), (9, _), (15, _)] ⟨rfl, rfl, rfl, rfl, rfl, trivial⟩ ?_
   refine AW.ifP rfl h2 (fun h2 => ?_) (fun h2 => ?_)
   ·refine AW.seq (AW.reg hn hfx rfl ?_)
    refine .cons rfl (r_copy (.inr rfl) rfl rfl) <| .nil ?_
    refine AW.sub [(4, _)] ⟨rfl, trivial⟩ ?_
    refine AW.ret ?_
    refine ⟨_, (Option.some.inj h2).symm, fun hz => ?_⟩
    subst hz
    obtain rfl := Option.some.inj h0
    exact ⟨_, .tmp rfl rfl .nil, .inl ⟨rfl, rfl⟩, .inl ⟨rfl, rfl⟩, trivial⟩
   ·refine AW.skip ?_
    refine AW.reg hn hfx rfl ?_
    refine .cons rfl (r_arith rfl rfl rfl rfl rfl) <| .cons rfl (r_copy (.inl rfl) rfl rfl) <| .nil ?_
    exact ⟨_, (Option.some.inj h2).symm, ⟨rfl, rfl, rfl, rfl, trivial⟩⟩
  ·refine AW.exit ?_
   refine ⟨_, (Option.some.inj h2).symm, fun hz => ?_⟩
   subst hz
   exact ⟨_, rfl, trivial⟩
 ·rintro s6 rfl l1 hl1
  refine AW.weaken hl1.sub ?_
  refine AW.seq (AW.reg hn hfx rfl ?_)
  refine .cons rfl (r_copy (.inr rfl) rfl rfl) <| .nil ?_
  refine AW.sub [(4, _)] ⟨rfl, trivial⟩ ?_
  refine AW.ret ?_
  obtain rfl := Option.some.inj h0
  exact ⟨_, .tmp rfl rfl .nil, .inl ⟨rfl, rfl⟩, .inl ⟨rfl, rfl⟩, trivial⟩

theorem W85_60 : ∀ (fuel : Nat) {u0 : Value} {u1 : Value} {u2 : Value} {u3 : Value} {u2v_c0 : Value} {u2v_c1 : Value} {u2v_c2 : Value} {u2v_c3 : Value} {u0v : (List Int)} {u1v : Int} {u2v_c0_u1v : (Int × ((List (Int × ((List Int) × Unit))) × Unit))} {u2v_c1_u2v : (Option (List Int))} {u2v_c2_u3v : (List Int)} {u2v_c3_u4v : (Int × ((List (Int × ((List Int) × Unit))) × Unit))} {r : ((List Int) × (Option (List Int)) × (List Int) × (Int × ((List (Int × ((List Int) × Unit))) × Unit)))} (_ : impl_eachOrder_1_with_canonical_1 fuel u0v u1v u2v_c0_u1v u2v_c1_u2v u2v_c2_u3v u2v_c3_u4v = some r), ∀ us0 : List Value, us0.length = 0 → MeetsU Try.prog 85 (us0 ++ [u0, u1, u2, u3]) [u2v_c0, u2v_c1, u2v_c2, u2v_c3] ([⟨(.ptr ty38), 2, u0v⟩, ⟨(.ptr tInt), 0, u1v⟩, ⟨(.ptr .raw), 0, (Value.func (Fn.func 60) #[] #[u2v_c0, u2v_c1, u2v_c2, u2v_c3])⟩, ⟨(.ptr .raw), 0, (Value.func (Fn.func 85) #[] #[u0, u1, u2, u3])⟩] ++ [⟨(.ptr ty26), 0, u2v_c0_u1v⟩, ⟨(.ptr (.opt ty38)), 2, u2v_c1_u2v⟩, ⟨(.ptr ty38), 2, u2v_c2_u3v⟩, ⟨(.ptr ty26), 3, u2v_c3_u4v⟩]) [] ([⟨(.ptr ty38), 2, r.1⟩, ⟨(.ptr tInt), 0, u1v⟩, ⟨(.ptr .raw), 0, (Value.func (Fn.func 60) #[] #[u2v_c0, u2v_c1, u2v_c2, u2v_c3])⟩, ⟨(.ptr .raw), 0, (Value.func (Fn.func 85) #[] #[u0, u1, u2, u3])⟩] ++ [⟨(.ptr ty26), 0, u2v_c0_u1v⟩, ⟨(.ptr (.opt ty38)), 2, r.2.1⟩, ⟨(.ptr ty38), 2, r.2.2.1⟩, ⟨(.ptr ty26), 3, r.2.2.2⟩]) := by
 intro fuel
 induction fuel with
 | zero => intro u0 u1 u2 u3 u2v_c0 u2v_c1 u2v_c2 u2v_c3 u0v u1v u2v_c0_u1v u2v_c1_u2v u2v_c2_u3v u2v_c3_u4v r h0; cases h0
 | succ fuel ih =>
 intro u0 u1 u2 u3 u2v_c0 u2v_c1 u2v_c2 u2v_c3 u0v u1v u2v_c0_u1v u2v_c1_u2v u2v_c2_u3v u2v_c3_u4v r h0
 intro us0 hus0
 refine match us0, hus0 with | [], _ => ?_
 refine MeetsU.of_body (n := 4) rfl (fn := Try.f85) Try.func85 rfl rfl rfl rfl rfl rfl fun c hn hfx hfix => ?_
 have hfix : ∀ p, p ∈ [(0, u0), (1, u1), (2, u2), (3, u3)] → p ∈ c.fix := hfix
 have k0 : (0, u0) ∈ c.fix := hfix _ (.head _)
 have k1 : (1, u1) ∈ c.fix := hfix _ (.tail _ (.head _))
 have k2 : (2, u2) ∈ c.fix := hfix _ (.tail _ (.tail _ (.head _)))
 have k3 : (3, u3) ∈ c.fix := hfix _ (.tail _ (.tail _ (.tail _ (.head _))))
 rw [impl_eachOrder_1_with_canonical_1] at h0
 refine AW.seq ?_
 refine AW.seq (AW.reg hn hfx rfl ?_)
 refine .cons rfl (r_load_ref rfl rfl rfl rfl ok38) <| .cons rfl (r_len_own rfl rfl rfl rfl ok38 rfl) <| .cons rfl (r_load_shared rfl rfl ok3) <| .cons rfl (r_cmp rfl rfl rfl rfl rfl) <| .nil ?_
 refine AW.sub [(0, _), (1, _), (2, _), (3, _), (8, _), (900000, _), (900001, _), (900002, _), (900003, _)] ⟨rfl, rfl, rfl, rfl, rfl, rfl, rfl, rfl, rfl, trivial⟩ ?_
 refine AW.ifP rfl h0 (fun h0 => ?_) (fun h0 => ?_)
 ·refine AW.seq (AW.reg hn hfx rfl ?_)
  refine .cons rfl (r_load_shared rfl rfl ok79) <| .cons rfl (r_load_ref rfl rfl rfl rfl ok38) ?_
  obtain ⟨x1, hx1, h0⟩ := bindE h0
  refine .cons rfl (r_callM [] rfl rfl rfl Try.func60 rfl rfl (fun us0 _ => (W60 hx1).toU (us0 ++ [u2v_c0, u2v_c1, u2v_c2, u2v_c3])) (.lend rfl (.glend (r := 900000) rfl (.gio (r := 900001) rfl (.gio (r := 900002) rfl (.gio (r := 900003) rfl .nil))))) rfl) <| .nil ?_
  refine AW.sub [(0, _), (1, _), (2, _), (3, _), (900000, _), (900001, _), (900002, _), (900003, _)] ⟨rfl, rfl, rfl, rfl, rfl, rfl, rfl, rfl, trivial⟩ ?_
  refine AW.ret ?_
  obtain rfl := Option.some.inj h0
  exact ⟨_, .nil, ⟨.inr ⟨nofun, rfl⟩, .inl ⟨rfl, rfl⟩, .inl ⟨rfl, rfl⟩, .inl ⟨rfl, rfl⟩, trivial⟩, ⟨rfl, rfl, rfl, rfl, trivial⟩⟩
 ·refine AW.skip ?_
  refine AW.seq (AW.reg hn hfx rfl ?_)
  refine .cons rfl (r_copy (.inr rfl) rfl rfl) <| .nil ?_
  refine AW.sub [(0, _), (1, _), (2, _), (3, _), (4, _), (900000, _), (900001, _), (900002, _), (900003, _)] ⟨rfl, rfl, rfl, rfl, rfl, rfl, rfl, rfl, rfl, trivial⟩ ?_
  obtain ⟨z26, h1, h0⟩ := bindE h0
  refine AW.joinJ [(1, _), (2, _), (3, _), (900000, _)] ⟨rfl, rfl, rfl, rfl, trivial⟩ [(0, .val (.ptr ty38) 2 z26.1), (900001, .gh u2v_c1 (.ptr (.opt ty38)) 2 z26.2.1), (900002, .gh u2v_c2 (.ptr ty38) 2 z26.2.2.1), (900003, .gh u2v_c3 (.ptr ty26) 3 z26.2.2.2)] ?_ ?_
  ·refine AW.block ?_
   refine AW.loopP h1 [(1, _), (2, _), (3, _), (900000, _)] ⟨rfl, rfl, rfl, rfl, trivial⟩ (fun s38 => [(0, .val (.ptr ty38) 2 s38.1), (4, .val tInt 0 s38.2.1), (900001, .gh u2v_c1 (.ptr (.opt ty38)) 2 s38.2.2.1), (900002, .gh u2v_c2 (.ptr ty38) 2 s38.2.2.2.1), (900003, .gh u2v_c3 (.ptr ty26) 3 s38.2.2.2.2)]) ⟨rfl, rfl, rfl, rfl, rfl, rfl, rfl, rfl, rfl, trivial⟩ fun s38 z49 h2 => ?_
   refine AW.seq ?_
   refine AW.seq (AW.reg hn hfx rfl ?_)
   refine .cons rfl (r_copy (.inl rfl) rfl rfl) <| .cons rfl (r_load_shared rfl rfl ok3) <| .cons rfl (r_cmp rfl rfl rfl rfl rfl) <| .nil ?_
   refine AW.sub [(0, _), (1, _), (2, _), (3, _), (4, _), (14, _), (900000, _), (900001, _), (900002, _), (900003, _)] ⟨rfl, rfl, rfl, rfl, rfl, rfl, rfl, rfl, rfl, rfl, trivial⟩ ?_
   refine AW.ifP rfl h2 (fun h2 => ?_) (fun h2 => ?_)
   ·refine AW.skip ?_
    refine AW.seq (AW.block ?_)
    refine AW.seq (AW.reg hn hfx rfl ?_)
    refine .cons rfl (r_load_ref rfl rfl rfl rfl ok38) <| .cons rfl (r_copy (.inl rfl) rfl rfl) ?_
    obtain ⟨x39, hx39, h2⟩ := bindE h2
    refine .cons rfl (r_call rfl rfl rfl Try.func86 rfl rfl (W86 hx39) rfl) <| .nil ?_
    refine AW.sub [(0, _), (1, _), (2, _), (3, _), (4, _), (19, _), (900000, _), (900001, _), (900002, _), (900003, _)] ⟨rfl, rfl, rfl, rfl, rfl, rfl, rfl, rfl, rfl, rfl, trivial⟩ ?_
    obtain ⟨z44, h3, h2⟩ := bindE h2
    refine AW.joinJ [(1, _), (2, _), (3, _), (4, _), (900000, _)] ⟨rfl, rfl, rfl, rfl, rfl, trivial⟩ [(0, .val (.ptr ty38) 2 z44.1), (900001, .gh u2v_c1 (.ptr (.opt ty38)) 2 z44.2.1), (900002, .gh u2v_c2 (.ptr ty38) 2 z44.2.2.1), (900003, .gh u2v_c3 (.ptr ty26) 3 z44.2.2.2)] ?_ ?_
    ·refine AW.ifP rfl h3 (fun h3 => ?_) (fun h3 => ?_)
     ·refine AW.seq (AW.reg hn hfx rfl ?_)
      refine .cons rfl (r_load_ref rfl rfl rfl rfl ok38) <| .cons rfl (r_copy (.inl rfl) rfl rfl) <| .cons rfl (r_buildSlice [] (e := tInt) (mc := 0) rfl rfl rfl ok38 rfl rfl rfl) ?_
      obtain ⟨x45, hx45, h3⟩ := bindE h3
      refine .cons rfl (r_append [] rfl rfl rfl ok38 rfl (mr := 0) rfl rfl (app_len hx45) (app_eq hx45)) ?_
      refine RT.sub [(0, _), (1, _), (2, _), (3, _), (4, _), (23, _), (900000, _), (900001, _), (900002, _), (900003, _)] ⟨rfl, rfl, rfl, rfl, rfl, rfl, rfl, rfl, rfl, rfl, trivial⟩ ?_
      refine .cons rfl (r_store [] rfl rfl rfl rfl rfl rfl rfl rfl ok38 rfl rfl rfl rfl) <| .nil ?_
      refine AW.sub [(0, _), (1, _), (2, _), (3, _), (4, _), (900000, _), (900001, _), (900002, _), (900003, _)] ⟨rfl, rfl, rfl, rfl, rfl, rfl, rfl, rfl, rfl, trivial⟩ ?_
      refine AW.seq (AW.reg hn hfx rfl ?_)
      refine .cons rfl (r_load_shared rfl rfl ok1) ?_
      obtain ⟨x46, hx46, h3⟩ := bindE h3
      refine .cons rfl (r_callM [u2v_c0, u2v_c1, u2v_c2, u2v_c3] rfl rfl rfl Try.func85 rfl rfl (ih (u0 := u0) (u1 := u1) (u2 := u2) (u3 := u3) (u2v_c0 := u2v_c0) (u2v_c1 := u2v_c1) (u2v_c2 := u2v_c2) (u2v_c3 := u2v_c3) hx46) (.kio rfl k0 (.klend rfl k1 (.klend rfl k2 (.klend rfl k3 (.glend (r := 900000) rfl (.gio (r := 900001) rfl (.gio (r := 900002) rfl (.gio (r := 900003) rfl .nil)))))))) rfl) <| .nil ?_
      refine AW.sub [(0, _), (1, _), (2, _), (3, _), (4, _), (900000, _), (900001, _), (900002, _), (900003, _)] ⟨rfl, rfl, rfl, rfl, rfl, rfl, rfl, rfl, rfl, trivial⟩ ?_
      refine AW.reg hn hfx rfl ?_
      refine .cons rfl (r_load_ref rfl rfl rfl rfl ok38) <| .cons rfl (r_load_ref rfl rfl rfl rfl ok38) <| .cons rfl (r_len_own rfl rfl rfl rfl ok38 rfl) <| .cons rfl (r_arith rfl rfl rfl rfl rfl) ?_
      refine RT.sub [(0, _), (1, _), (2, _), (3, _), (4, _), (26, _), (29, _), (900000, _), (900001, _), (900002, _), (900003, _)] ⟨rfl, rfl, rfl, rfl, rfl, rfl, rfl, rfl, rfl, rfl, rfl, trivial⟩ ?_
      obtain ⟨x47, hx47, h3⟩ := bindE h3
      refine .cons rfl (r_cutOwn [26] rfl rfl rfl rfl ok38 hx47) <| .cons rfl (r_store [] rfl rfl rfl rfl rfl rfl rfl rfl ok38 rfl rfl rfl rfl) <| .nil ?_
      obtain rfl := Option.some.inj h3
      exact ⟨rfl, rfl, rfl, rfl, rfl, rfl, rfl, rfl, rfl, trivial⟩
     ·refine AW.skip ?_
      obtain rfl := Option.some.inj h3
      exact ⟨rfl, rfl, rfl, rfl, rfl, rfl, rfl, rfl, rfl, trivial⟩
    ·intro l1 hl1
     refine AW.weaken hl1.sub ?_
     refine AW.reg hn hfx rfl ?_
     refine .cons rfl (r_copy (.inl rfl) rfl rfl) <| .cons rfl (r_arith rfl rfl rfl rfl rfl) <| .cons rfl (r_copy (.inr rfl) rfl rfl) <| .nil ?_
     exact ⟨_, (Option.some.inj h2).symm, ⟨rfl, rfl, rfl, rfl, rfl, rfl, rfl, rfl, rfl, trivial⟩⟩
   ·refine AW.exit ?_
    refine ⟨_, (Option.some.inj h2).symm, fun hz => ?_⟩
    subst hz
    exact ⟨rfl, rfl, rfl, rfl, rfl, rfl, rfl, rfl, trivial⟩
  ·intro l1 hl1
   obtain rfl := Option.some.inj h0
   exact ⟨_, .nil, ⟨.inr ⟨nofun, (Sub.via (m := [(0, _)]) hl1 ⟨rfl, trivial⟩).1⟩, .inl ⟨rfl, rfl⟩, .inl ⟨rfl, rfl⟩, .inl ⟨rfl, rfl⟩, trivial⟩, ⟨(Sub.via (m := [(900000, _)]) hl1 ⟨rfl, trivial⟩).1, (Sub.via (m := [(900001, _)]) hl1 ⟨rfl, trivial⟩).1, (Sub.via (m := [(900002, _)]) hl1 ⟨rfl, trivial⟩).1, (Sub.via (m := [(900003, _)]) hl1 ⟨rfl, trivial⟩).1, trivial⟩⟩

theorem W59_60 {found_c0 : Value} {found_c1 : Value} {found_c2 : Value} {found_c3 : Value} {n : Int} {found_c0_u1v : (Int × ((List (Int × ((List Int) × Unit))) × Unit))} {found_c1_u2v : (Option (List Int))} {found_c2_u3v : (List Int)} {found_c3_u4v : (Int × ((List (Int × ((List Int) × Unit))) × Unit))} {r : ((Option (List Int)) × (List Int) × (Int × ((List (Int × ((List Int) × Unit))) × Unit)))} (h0 : impl_eachOrder_with_canonical_1 n found_c0_u1v found_c1_u2v found_c2_u3v found_c3_u4v = some r) : ∀ us0 : List Value, us0.length = 2 → MeetsU Try.prog 59 (us0 ++ []) [found_c0, found_c1, found_c2, found_c3] ([⟨tInt, 0, n⟩, ⟨.raw, 0, (Value.func (Fn.func 60) #[] #[found_c0, found_c1, found_c2, found_c3])⟩] ++ [⟨(.ptr ty26), 0, found_c0_u1v⟩, ⟨(.ptr (.opt ty38)), 2, found_c1_u2v⟩, ⟨(.ptr ty38), 2, found_c2_u3v⟩, ⟨(.ptr ty26), 3, found_c3_u4v⟩]) [] ([⟨tInt, 0, n⟩, ⟨.raw, 0, (Value.func (Fn.func 60) #[] #[found_c0, found_c1, found_c2, found_c3])⟩] ++ [⟨(.ptr ty26), 0, found_c0_u1v⟩, ⟨(.ptr (.opt ty38)), 2, r.1⟩, ⟨(.ptr ty38), 2, r.2.1⟩, ⟨(.ptr ty26), 3, r.2.2⟩]) := by
 intro us0 hus0
 refine match us0, hus0 with | [w0, w1], _ => ?_
 refine MeetsU.of_body (n := 2) rfl (fn := Try.f59) Try.func59 rfl rfl rfl rfl rfl rfl fun c hn hfx hfix => ?_
 have hfix : ∀ p, p ∈ [(0, w0), (1, w1)] → p ∈ c.fix := hfix
 have k0 : (0, w0) ∈ c.fix := hfix _ (.head _)
 have k1 : (1, w1) ∈ c.fix := hfix _ (.tail _ (.head _))
 unfold impl_eachOrder_with_canonical_1 at h0
 refine AW.seq (AW.reg hn hfx rfl ?_)
 refine .cons rfl (r_box [] rfl rfl rfl) <| .cons rfl (r_box [] rfl rfl rfl) <| .nil ?_
 refine AW.sub [(0, _), (1, _), (2, _), (3, _), (900000, _), (900001, _), (900002, _), (900003, _)] ⟨rfl, rfl, rfl, rfl, rfl, rfl, rfl, rfl, trivial⟩ ?_
 refine AW.seq (AW.reg hn hfx rfl ?_)
 refine .cons rfl (r_buildSlice [] (e := tInt) (mc := 0) rfl rfl rfl ok38 rfl rfl rfl) <| .cons rfl (r_alloc rfl ok38 rfl) <| .cons rfl (r_store [] rfl rfl rfl rfl rfl rfl rfl rfl ok38 rfl rfl rfl rfl) <| .nil ?_
 refine AW.sub [(0, _), (1, _), (2, _), (3, _), (4, _), (900000, _), (900001, _), (900002, _), (900003, _)] ⟨rfl, rfl, rfl, rfl, rfl, rfl, rfl, rfl, rfl, trivial⟩ ?_
 refine AW.seq (AW.reg hn hfx rfl ?_)
 refine .cons rfl (r_alloc rfl ok1 rfl) <| .nil ?_
 refine AW.sub [(0, _), (1, _), (2, _), (3, _), (4, _), (5, _), (900000, _), (900001, _), (900002, _), (900003, _)] ⟨rfl, rfl, rfl, rfl, rfl, rfl, rfl, rfl, rfl, rfl, trivial⟩ ?_
 refine AW.know 4 hn hfx rfl fun u4_ c hn hfx k4 hm => ?_
 replace k0 := hm _ k0
 replace k1 := hm _ k1
 refine AW.know 2 hn hfx rfl fun u2_ c hn hfx k2 hm => ?_
 replace k0 := hm _ k0
 replace k1 := hm _ k1
 replace k4 := hm _ k4
 refine AW.know 3 hn hfx rfl fun u3_ c hn hfx k3 hm => ?_
 replace k0 := hm _ k0
 replace k1 := hm _ k1
 replace k4 := hm _ k4
 replace k2 := hm _ k2
 refine AW.know 5 hn hfx rfl fun u5_ c hn hfx k5 hm => ?_
 replace k0 := hm _ k0
 replace k1 := hm _ k1
 replace k4 := hm _ k4
 replace k2 := hm _ k2
 replace k3 := hm _ k3
 refine AW.seq (AW.reg hn hfx rfl ?_)
 refine .cons rfl (r_mkfun (vs := [u4_, u2_, u3_, u5_]) rfl ⟨k4, k2, k3, k5, trivial⟩) <| .cons rfl (r_store [] rfl rfl rfl rfl rfl rfl rfl rfl ok1 rfl rfl rfl rfl) <| .nil ?_
 refine AW.sub [(0, _), (1, _), (2, _), (3, _), (4, _), (5, _), (900000, _), (900001, _), (900002, _), (900003, _)] ⟨rfl, rfl, rfl, rfl, rfl, rfl, rfl, rfl, rfl, rfl, trivial⟩ ?_
 refine AW.reg hn hfx rfl ?_
 refine .cons rfl (r_load rfl rfl rfl rfl ok1 rfl) ?_
 obtain ⟨x1, hx1, h0⟩ := bindE h0
 refine .cons rfl (r_callM [found_c0, found_c1, found_c2, found_c3] rfl rfl rfl Try.func85 rfl rfl (W85_60 30 (u0 := u4_) (u1 := u2_) (u2 := u3_) (u3 := u5_) (u2v_c0 := found_c0) (u2v_c1 := found_c1) (u2v_c2 := found_c2) (u2v_c3 := found_c3) hx1) (.kio rfl k4 (.klend rfl k2 (.klend rfl k3 (.klend rfl k5 (.glend (r := 900000) rfl (.gio (r := 900001) rfl (.gio (r := 900002) rfl (.gio (r := 900003) rfl .nil)))))))) rfl) <| .nil ?_
 obtain rfl := Option.some.inj h0
 exact ⟨_, .nil, ⟨.inl ⟨rfl, rfl⟩, .inl ⟨rfl, rfl⟩, trivial⟩, ⟨rfl, rfl, rfl, rfl, trivial⟩⟩

theorem W30  {a : (Int × ((List (Int × ((List Int) × Unit))) × Unit))} {r : ((Int × ((List (Int × ((List Int) × Unit))) × Unit)) × (List Int))} (h0 : impl_canonical a = some r) : Meets Try.prog 30 [⟨ty26, 0, a⟩] [⟨ty26, 2, r.1⟩, ⟨ty38, 1, r.2⟩] [⟨ty26, 0, a⟩] := by
 refine Meets.of_body (fn := Try.f30) Try.func30 rfl rfl rfl fun c hn hfx => ?_
 unfold impl_canonical at h0
 refine AW.seq (AW.reg hn hfx rfl ?_)
 refine .cons rfl (r_box [] rfl rfl rfl) <| .cons rfl (r_alloc rfl ok26 rfl) <| .cons rfl (r_nilS (m := 1) (.inr rfl) ok38) <| .nil ?_
 refine AW.sub [(1, _), (2, _)] ⟨rfl, rfl, trivial⟩ ?_
 refine AW.seq (AW.reg hn hfx rfl ?_)
 refine .cons rfl (r_build [] rfl rfl rfl ok26 ⟨_, _, rfl⟩ rfl rfl (mc := 2)) <| .cons rfl (r_alloc rfl ok26 rfl) <| .cons rfl (r_store [] rfl rfl rfl rfl rfl rfl rfl rfl ok26 rfl rfl rfl rfl) <| .nil ?_
 refine AW.sub [(1, _), (2, _), (4, _)] ⟨rfl, rfl, rfl, trivial⟩ ?_
 refine AW.seq (AW.reg hn hfx rfl ?_)
 refine .cons rfl (r_alloc rfl ok38 rfl) <| .cons rfl (r_alloc rfl ok38opt rfl) <| .nil ?_
 refine AW.sub [(1, _), (2, _), (4, _), (5, _), (6, _)] ⟨rfl, rfl, rfl, rfl, rfl, trivial⟩ ?_
 refine AW.know 1 hn hfx rfl fun u1_ c hn hfx k1 hm => ?_
 refine AW.know 6 hn hfx rfl fun u6_ c hn hfx k6 hm => ?_
 replace k1 := hm _ k1
 refine AW.know 5 hn hfx rfl fun u5_ c hn hfx k5 hm => ?_
 replace k1 := hm _ k1
 replace k6 := hm _ k6
 refine AW.know 4 hn hfx rfl fun u4_ c hn hfx k4 hm => ?_
 replace k1 := hm _ k1
 replace k6 := hm _ k6
 replace k5 := hm _ k5
 refine AW.seq (AW.reg hn hfx rfl ?_)
 refine .cons rfl (r_field rfl rfl rfl rfl ok26 rfl rfl) <| .cons rfl (r_load rfl rfl rfl rfl ok3 rfl) <| .cons rfl (r_mkfun (vs := [u1_, u6_, u5_, u4_]) rfl ⟨k1, k6, k5, k4, trivial⟩) ?_
 obtain ⟨x1, hx1, h0⟩ := bindE h0
 refine .cons rfl (r_callM [u1_, u6_, u5_, u4_] rfl rfl rfl Try.func59 rfl rfl (W59_60 (found_c0 := u1_) (found_c1 := u6_) (found_c2 := u5_) (found_c3 := u4_) hx1) (.lend rfl (.lend rfl (.klend rfl k1 (.kio rfl k6 (.kio rfl k5 (.kio rfl k4 .nil)))))) rfl) <| .nil ?_
 refine AW.sub [(1, _), (2, _), (4, _), (5, _), (6, _)] ⟨rfl, rfl, rfl, rfl, rfl, trivial⟩ ?_
 refine AW.cast 6 rfl cast_ptr_of_opt ?_
 refine AW.seq (AW.draw hmix hn hfx rfl rfl ?_)
 refine .cons rfl (r_load_ref rfl rfl rfl rfl ok26) rfl rfl rfl <| .cons rfl (r_load_ref rfl rfl rfl rfl ok38) rfl rfl rfl <| .cons rfl (r_store [12] rfl rfl rfl rfl rfl rfl rfl rfl ok26 rfl rfl rfl rfl) rfl rfl rfl <| .cons rfl (r_assign [13] (.inl rfl) rfl rfl) rfl rfl rfl <| .nil rfl ?_
 refine AW.sub [(1, _), (2, _), (3, _), (5, _), (6, _)] ⟨rfl, rfl, rfl, rfl, rfl, trivial⟩ ?_
 refine AW.ret ?_
 obtain rfl := Option.some.inj h0
 exact ⟨_, .cell rfl ok26 (.tmp rfl rfl .nil), .inl ⟨rfl, rfl⟩, trivial⟩

theorem W36  {a : (List Int)} {b : (List Int)} {r : Bool} (h0 : impl_sameList a b = some r) : Meets Try.prog 36 [⟨ty38, 0, a⟩, ⟨ty38, 0, b⟩] [⟨.bool, 0, r⟩] [⟨ty38, 0, a⟩, ⟨ty38, 0, b⟩] := by
 refine Meets.of_body (fn := Try.f36) Try.func36 rfl rfl rfl fun c hn hfx => ?_
 unfold impl_sameList at h0
 refine AW.seq (AW.reg hn hfx rfl ?_)
 refine .cons rfl (r_copy (.inr rfl) rfl rfl) <| .nil ?_
 refine AW.sub [(0, _), (1, _)] ⟨rfl, rfl, trivial⟩ ?_
 refine AW.seq ?_
 refine AW.seq (AW.reg hn hfx rfl ?_)
 refine .cons rfl (r_copy (.inl rfl) rfl rfl) <| .cons rfl (r_len rfl rfl ok38 rfl) <| .cons rfl (r_copy (.inl rfl) rfl rfl) <| .cons rfl (r_len rfl rfl ok38 rfl) ?_
 refine RT.sub [(0, _), (1, _), (8, _), (10, _)] ⟨rfl, rfl, rfl, rfl, trivial⟩ ?_
 refine .cons rfl (r_cmp rfl rfl rfl rfl rfl) <| .nil ?_
 refine AW.sub [(0, _), (1, _), (11, _)] ⟨rfl, rfl, rfl, trivial⟩ ?_
 refine AW.ifP rfl h0 (fun h0 => ?_) (fun h0 => ?_)
 ·refine AW.seq (AW.reg hn hfx rfl ?_)
  refine .cons rfl (r_copy (.inr rfl) rfl rfl) <| .nil ?_
  refine AW.sub [(4, _)] ⟨rfl, trivial⟩ ?_
  refine AW.ret ?_
  obtain rfl := Option.some.inj h0
  exact ⟨_, .tmp rfl rfl .nil, .inl ⟨rfl, rfl⟩, .inl ⟨rfl, rfl⟩, trivial⟩
 ·refine AW.skip ?_
  refine AW.seq ?_
  refine AW.seq (AW.reg hn hfx rfl ?_)
  refine .cons rfl (r_copy (.inl rfl) rfl rfl) <| .cons rfl (r_len rfl rfl ok38 rfl) <| .cons rfl (r_copy (.inl rfl) rfl rfl) <| .nil ?_
  refine AW.sub [(1, _), (12, _), (13, _), (14, _)] ⟨rfl, rfl, rfl, rfl, trivial⟩ ?_
  obtain ⟨z9, h1, h0⟩ := bindE h0
  refine AW.joinX z9 [] trivial (fun s8 => []) ?_ ?_
  ·refine AW.block ?_
   refine AW.loopP h1 [(1, _), (12, _), (13, _)] ⟨rfl, rfl, rfl, trivial⟩ (fun s13 => [(14, .val tInt 0 s13)]) ⟨rfl, rfl, rfl, rfl, trivial⟩ fun s13 z16 h2 => ?_
   refine AW.seq (AW.reg hn hfx rfl ?_)
   refine .cons rfl (r_cmp rfl rfl rfl rfl rfl) <| .nil ?_
   refine AW.sub [(1, _), (12, _), (13, _), (14, _), (15, _)] ⟨rfl, rfl, rfl, rfl, rfl, trivial⟩ ?_
   refine AW.seq (AW.ifP rfl h2 (fun h2 => ?_) (fun h2 => ?_))
   ·refine AW.skip ?_
    refine AW.seq (AW.block ?_)
    refine AW.seq (AW.reg hn hfx rfl ?_)
    refine .cons rfl (r_copy (.inl rfl) rfl rfl) ?_
    obtain ⟨x14, hx14, h2⟩ := bindE h2
    refine .cons rfl (r_index_shared rfl rfl rfl ok38 (idx_nn hx14) (idx_get hx14)) <| .cons rfl (r_load_shared rfl rfl ok3) <| .cons rfl (r_copy (.inr rfl) rfl rfl) ?_
    refine RT.sub [(1, _), (5, _), (12, _), (13, _), (14, _), (18, _)] ⟨rfl, rfl, rfl, rfl, rfl, rfl, trivial⟩ ?_
    refine .cons rfl (r_copy (.inr rfl) rfl rfl) <| .nil ?_
    refine AW.sub [(1, _), (5, _), (6, _), (12, _), (13, _), (14, _)] ⟨rfl, rfl, rfl, rfl, rfl, rfl, trivial⟩ ?_
    refine AW.seq (AW.reg hn hfx rfl ?_)
    refine .cons rfl (r_copy (.inl rfl) rfl rfl) <| .cons rfl (r_copy (.inl rfl) rfl rfl) ?_
    obtain ⟨x15, hx15, h2⟩ := bindE h2
    refine .cons rfl (r_index_shared rfl rfl rfl ok38 (idx_nn hx15) (idx_get hx15)) <| .cons rfl (r_load_shared rfl rfl ok3) ?_
    refine RT.sub [(1, _), (6, _), (12, _), (13, _), (14, _), (22, _)] ⟨rfl, rfl, rfl, rfl, rfl, rfl, trivial⟩ ?_
    refine .cons rfl (r_copy (.inl rfl) rfl rfl) <| .cons rfl (r_cmp rfl rfl rfl rfl rfl) <| .nil ?_
    refine AW.sub [(1, _), (12, _), (13, _), (14, _), (24, _)] ⟨rfl, rfl, rfl, rfl, rfl, trivial⟩ ?_
    refine AW.ifP rfl h2 (fun h2 => ?_) (fun h2 => ?_)
    ·refine AW.seq (AW.reg hn hfx rfl ?_)
     refine .cons rfl (r_copy (.inr rfl) rfl rfl) <| .nil ?_
     refine AW.sub [(4, _)] ⟨rfl, trivial⟩ ?_
     refine AW.ret ?_
     refine ⟨_, (Option.some.inj h2).symm, fun hz => ?_⟩
     subst hz
     obtain rfl := Option.some.inj h0
     exact ⟨_, .tmp rfl rfl .nil, .inl ⟨rfl, rfl⟩, .inl ⟨rfl, rfl⟩, trivial⟩
    ·refine AW.skip ?_
     refine AW.reg hn hfx rfl ?_
     refine .cons rfl (r_arith rfl rfl rfl rfl rfl) <| .cons rfl (r_copy (.inl rfl) rfl rfl) <| .nil ?_
     exact ⟨_, (Option.some.inj h2).symm, ⟨rfl, rfl, rfl, rfl, trivial⟩⟩
   ·refine AW.exit ?_
    refine ⟨_, (Option.some.inj h2).symm, fun hz => ?_⟩
    subst hz
    exact ⟨_, rfl, trivial⟩
  ·rintro s8 rfl l1 hl1
   refine AW.weaken hl1.sub ?_
   refine AW.seq (AW.reg hn hfx rfl ?_)
   refine .cons rfl (r_copy (.inr rfl) rfl rfl) <| .nil ?_
   refine AW.sub [(4, _)] ⟨rfl, trivial⟩ ?_
   refine AW.ret ?_
   obtain rfl := Option.some.inj h0
   exact ⟨_, .tmp rfl rfl .nil, .inl ⟨rfl, rfl⟩, .inl ⟨rfl, rfl⟩, trivial⟩

theorem W31  {a : (Int × ((List (Int × ((List Int) × Unit))) × Unit))} {b : (Int × ((List (Int × ((List Int) × Unit))) × Unit))} {r : Bool} (h0 : impl_sameAlgebra a b = some r) : Meets Try.prog 31 [⟨ty26, 0, a⟩, ⟨ty26, 0, b⟩] [⟨.bool, 0, r⟩] [⟨ty26, 0, a⟩, ⟨ty26, 0, b⟩] := by
 refine Meets.of_body (fn := Try.f31) Try.func31 rfl rfl rfl fun c hn hfx => ?_
 unfold impl_sameAlgebra at h0
 refine AW.seq (AW.reg hn hfx rfl ?_)
 refine .cons rfl (r_box [] rfl rfl rfl) <| .cons rfl (r_box [] rfl rfl rfl) <| .cons rfl (r_copy (.inr rfl) rfl rfl) <| .nil ?_
 refine AW.sub [(2, _), (3, _)] ⟨rfl, rfl, trivial⟩ ?_
 refine AW.seq ?_
 obtain ⟨z2, h1, h0⟩ := bindE h0
 refine AW.seq (AW.joinJ [(2, _), (3, _)] ⟨rfl, rfl, trivial⟩ [(20, .val .bool 0 z2)] ?_ ?_)
 ·refine AW.reg hn hfx rfl ?_
  refine .cons rfl (r_field rfl rfl rfl rfl ok26 rfl rfl) <| .cons rfl (r_load rfl rfl rfl rfl ok3 rfl) <| .cons rfl (r_field rfl rfl rfl rfl ok26 rfl rfl) <| .cons rfl (r_load rfl rfl rfl rfl ok3 rfl) ?_
  refine RT.sub [(2, _), (3, _), (8, _), (10, _)] ⟨rfl, rfl, rfl, rfl, trivial⟩ ?_
  refine .cons rfl (r_cmp rfl rfl rfl rfl rfl) ?_
  refine .ifP (.inl rfl) rfl rfl h1 (fun h1 => ?_) (fun h1 => ?_)
  ·refine .pass (.inl ⟨_, _, _, rfl, rfl, rfl⟩) <| .pass (.inl ⟨_, _, _, rfl, rfl, rfl⟩) ?_
   refine RT.sub [(2, _), (3, _), (12, _), (14, _)] ⟨rfl, rfl, rfl, rfl, trivial⟩ ?_
   refine .pass (.inl ⟨_, _, _, rfl, rfl, rfl⟩) <| .pass (.inl ⟨_, _, _, rfl, rfl, rfl⟩) <| .pass (.inl ⟨_, _, _, rfl, rfl, rfl⟩) <| .pass (.inl ⟨_, _, _, rfl, rfl, rfl⟩) ?_
   refine RT.sub [(2, _), (3, _), (12, _), (15, _), (18, _)] ⟨rfl, rfl, rfl, rfl, rfl, trivial⟩ ?_
   refine .pass (.inl ⟨_, _, _, rfl, rfl, rfl⟩) <| .cons rfl (r_pick_true rfl rfl rfl rfl) <| .nil ?_
   obtain rfl := Option.some.inj h1
   exact ⟨rfl, rfl, rfl, trivial⟩
  ·refine .cons (.inl ⟨_, _, _, rfl, rfl, rfl⟩) (r_field rfl rfl rfl rfl ok26 rfl rfl) <| .cons (.inl ⟨_, _, _, rfl, rfl, rfl⟩) (r_load rfl rfl rfl rfl ok24 rfl) ?_
   refine RT.sub [(2, _), (3, _), (12, _), (14, _)] ⟨rfl, rfl, rfl, rfl, trivial⟩ ?_
   refine .cons (.inl ⟨_, _, _, rfl, rfl, rfl⟩) (r_len rfl rfl ok24 rfl) <| .cons (.inl ⟨_, _, _, rfl, rfl, rfl⟩) (r_field rfl rfl rfl rfl ok26 rfl rfl) <| .cons (.inl ⟨_, _, _, rfl, rfl, rfl⟩) (r_load rfl rfl rfl rfl ok24 rfl) <| .cons (.inl ⟨_, _, _, rfl, rfl, rfl⟩) (r_len rfl rfl ok24 rfl) ?_
   refine RT.sub [(2, _), (3, _), (12, _), (15, _), (18, _)] ⟨rfl, rfl, rfl, rfl, rfl, trivial⟩ ?_
   refine .cons (.inl ⟨_, _, _, rfl, rfl, rfl⟩) (r_cmp rfl rfl rfl rfl rfl) <| .cons rfl (r_pick_false rfl rfl rfl rfl) <| .nil ?_
   obtain rfl := Option.some.inj h1
   exact ⟨rfl, rfl, rfl, trivial⟩
 ·intro l1 hl1
  refine AW.weaken hl1.sub ?_
  refine AW.ifP rfl h0 (fun h0 => ?_) (fun h0 => ?_)
  ·refine AW.seq (AW.reg hn hfx rfl ?_)
   refine .cons rfl (r_copy (.inr rfl) rfl rfl) <| .nil ?_
   refine AW.sub [(4, _)] ⟨rfl, trivial⟩ ?_
   refine AW.ret ?_
   obtain rfl := Option.some.inj h0
   exact ⟨_, .tmp rfl rfl .nil, .inl ⟨rfl, rfl⟩, .inl ⟨rfl, rfl⟩, trivial⟩
  ·refine AW.skip ?_
   refine AW.seq ?_
   refine AW.seq (AW.reg hn hfx rfl ?_)
   refine .cons rfl (r_field rfl rfl rfl rfl ok26 rfl rfl) <| .cons rfl (r_load rfl rfl rfl rfl ok24 rfl) <| .cons rfl (r_len rfl rfl ok24 rfl) <| .cons rfl (r_copy (.inl rfl) rfl rfl) <| .nil ?_
   refine AW.sub [(3, _), (22, _), (23, _), (24, _)] ⟨rfl, rfl, rfl, rfl, trivial⟩ ?_
   obtain ⟨z28, h1, h0⟩ := bindE h0
   refine AW.joinX z28 [] trivial (fun s27 => []) ?_ ?_
   ·refine AW.block ?_
    refine AW.loopP h1 [(3, _), (22, _), (23, _)] ⟨rfl, rfl, rfl, trivial⟩ (fun s40 => [(24, .val tInt 0 s40)]) ⟨rfl, rfl, rfl, rfl, trivial⟩ fun s40 z51 h2 => ?_
    refine AW.seq (AW.reg hn hfx rfl ?_)
    refine .cons rfl (r_cmp rfl rfl rfl rfl rfl) <| .nil ?_
    refine AW.sub [(3, _), (22, _), (23, _), (24, _), (25, _)] ⟨rfl, rfl, rfl, rfl, rfl, trivial⟩ ?_
    refine AW.seq (AW.ifP rfl h2 (fun h2 => ?_) (fun h2 => ?_))
    ·refine AW.skip ?_
     refine AW.seq (AW.block ?_)
     refine AW.seq (AW.reg hn hfx rfl ?_)
     refine .cons rfl (r_copy (.inl rfl) rfl rfl) ?_
     obtain ⟨x41, hx41, h2⟩ := bindE h2
     refine .cons rfl (r_index_shared rfl rfl rfl ok24 (idx_nn hx41) (idx_get hx41)) <| .cons rfl (r_load_shared rfl rfl ok72) <| .cons rfl (SR.lower 1 (r_alloc rfl ok72 rfl)) ?_
     refine RT.sub [(3, _), (6, _), (22, _), (23, _), (24, _), (26, _), (28, _)] ⟨rfl, rfl, rfl, rfl, rfl, rfl, rfl, trivial⟩ ?_
     refine .cons rfl (r_copy (.inr rfl) rfl rfl) <| .cons rfl (r_store [] rfl rfl rfl rfl rfl rfl rfl rfl ok72 rfl rfl rfl rfl) <| .nil ?_
     refine AW.sub [(3, _), (5, _), (6, _), (22, _), (23, _), (24, _)] ⟨rfl, rfl, rfl, rfl, rfl, rfl, trivial⟩ ?_
     obtain ⟨z46, h3, h2⟩ := bindE h2
     refine AW.seq (AW.joinJ [(3, _), (22, _), (23, _), (24, _)] ⟨rfl, rfl, rfl, rfl, trivial⟩ [(49, .val .bool 0 z46)] ?_ ?_)
     ·refine AW.draw hmix hn hfx rfl rfl ?_
      refine .cons rfl (r_field rfl rfl rfl rfl ok72 rfl rfl) rfl rfl rfl <| .cons rfl (r_load rfl rfl rfl rfl ok3 rfl) rfl rfl rfl <| .cons rfl (r_field rfl rfl rfl rfl ok26 rfl rfl) rfl rfl rfl <| .cons rfl (r_load rfl rfl rfl rfl ok24 rfl) rfl rfl rfl ?_
      refine DT.eq [(32, _), (31, _), (30, _), (29, _), (3, _), (5, _), (6, _), (22, _), (23, _), (24, _)] rfl ?_
      refine .cons rfl (r_copy (.inl rfl) rfl rfl) rfl rfl rfl ?_
      obtain ⟨x47, hx47, h3⟩ := bindE h3
      refine .cons rfl (r_index_shared rfl rfl rfl ok24 (idx_nn hx47) (idx_get hx47)) rfl rfl rfl <| .cons rfl (r_field_shared rfl rfl ok72 rfl rfl rfl) rfl rfl rfl <| .cons rfl (r_load_shared rfl rfl ok3) rfl rfl rfl ?_
      refine DT.eq [(36, _), (35, _), (34, _), (33, _), (32, _), (31, _), (30, _), (29, _), (3, _), (5, _), (6, _), (22, _), (23, _), (24, _)] rfl ?_
      refine .cons rfl (r_cmp rfl rfl rfl rfl rfl) rfl rfl rfl ?_
      refine .ifP (.inl rfl) rfl rfl (fun _ => rfl) rfl h3 (fun h3 => ?_) (fun h3 => ?_)
      ·refine .pass (.inl ⟨_, _, _, rfl, rfl, rfl⟩) rfl rfl <| .pass (.inl ⟨_, _, _, rfl, rfl, rfl⟩) rfl rfl ?_
       refine DT.eq [(40, _), (39, _), (38, _), (37, _), (36, _), (35, _), (34, _), (33, _), (32, _), (31, _), (30, _), (29, _), (3, _), (5, _), (6, _), (22, _), (23, _), (24, _)] rfl ?_
       refine .pass (.inl ⟨_, _, _, rfl, rfl, rfl⟩) rfl rfl <| .pass (.inl ⟨_, _, _, rfl, rfl, rfl⟩) rfl rfl <| .pass (.inl ⟨_, _, _, rfl, rfl, rfl⟩) rfl rfl <| .pass (.inl ⟨_, _, _, rfl, rfl, rfl⟩) rfl rfl ?_
       refine DT.eq [(44, _), (43, _), (42, _), (41, _), (40, _), (39, _), (38, _), (37, _), (36, _), (35, _), (34, _), (33, _), (32, _), (31, _), (30, _), (29, _), (3, _), (5, _), (6, _), (22, _), (23, _), (24, _)] rfl ?_
       refine .pass (.inl ⟨_, _, _, rfl, rfl, rfl⟩) rfl rfl <| .pass (.inl ⟨_, _, _, rfl, rfl, rfl⟩) rfl rfl <| .pass (.inl ⟨_, _, _, rfl, rfl, rfl⟩) rfl rfl <| .pass (.inl ⟨_, _, _, rfl, rfl, rfl⟩) rfl rfl ?_
       refine DT.eq [(48, _), (47, _), (46, _), (45, _), (44, _), (43, _), (42, _), (41, _), (40, _), (39, _), (38, _), (37, _), (36, _), (35, _), (34, _), (33, _), (32, _), (31, _), (30, _), (29, _), (3, _), (5, _), (6, _), (22, _), (23, _), (24, _)] rfl ?_
       refine .cons rfl (r_pick_true rfl rfl rfl rfl) rfl rfl rfl <| .nil rfl ?_
       obtain rfl := Option.some.inj h3
       exact ⟨rfl, rfl, rfl, rfl, rfl, trivial⟩
      ·refine .cons (.inl ⟨_, _, _, rfl, rfl, rfl⟩) (r_field rfl rfl rfl rfl ok72 rfl rfl) rfl rfl rfl <| .cons (.inl ⟨_, _, _, rfl, rfl, rfl⟩) (r_load rfl rfl rfl rfl ok38 rfl) rfl rfl rfl ?_
       refine DT.eq [(40, _), (39, _), (38, _), (37, _), (36, _), (35, _), (34, _), (33, _), (32, _), (31, _), (30, _), (29, _), (3, _), (5, _), (6, _), (22, _), (23, _), (24, _)] rfl ?_
       refine .cons (.inl ⟨_, _, _, rfl, rfl, rfl⟩) (r_field rfl rfl rfl rfl ok26 rfl rfl) rfl rfl rfl <| .cons (.inl ⟨_, _, _, rfl, rfl, rfl⟩) (r_load rfl rfl rfl rfl ok24 rfl) rfl rfl rfl <| .cons (.inl ⟨_, _, _, rfl, rfl, rfl⟩) (r_copy (.inl rfl) rfl rfl) rfl rfl rfl ?_
       obtain ⟨x48, hx48, h3⟩ := bindE h3
       refine .cons (.inl ⟨_, _, _, rfl, rfl, rfl⟩) (r_index_shared rfl rfl rfl ok24 (idx_nn hx48) (idx_get hx48)) rfl rfl rfl ?_
       refine DT.eq [(44, _), (43, _), (42, _), (41, _), (40, _), (39, _), (38, _), (37, _), (36, _), (35, _), (34, _), (33, _), (32, _), (31, _), (30, _), (29, _), (3, _), (5, _), (6, _), (22, _), (23, _), (24, _)] rfl ?_
       refine .cons (.inl ⟨_, _, _, rfl, rfl, rfl⟩) (r_field_shared rfl rfl ok72 rfl rfl rfl) rfl rfl rfl <| .cons (.inl ⟨_, _, _, rfl, rfl, rfl⟩) (r_load_shared rfl rfl ok38) rfl rfl rfl ?_
       obtain ⟨x49, hx49, h3⟩ := bindE h3
       refine .cons (.inl ⟨_, _, _, rfl, rfl, rfl⟩) (r_call rfl rfl rfl Try.func36 rfl rfl (W36 hx49) rfl) rfl rfl rfl <| .cons (.inl ⟨_, _, _, rfl, rfl, rfl⟩) (r_not rfl rfl rfl) rfl rfl rfl ?_
       refine DT.eq [(48, _), (47, _), (46, _), (45, _), (44, _), (43, _), (42, _), (41, _), (40, _), (39, _), (38, _), (37, _), (36, _), (35, _), (34, _), (33, _), (32, _), (31, _), (30, _), (29, _), (3, _), (5, _), (6, _), (22, _), (23, _), (24, _)] rfl ?_
       refine .cons rfl (r_pick_false rfl rfl rfl rfl) rfl rfl rfl <| .nil rfl ?_
       obtain rfl := Option.some.inj h3
       exact ⟨rfl, rfl, rfl, rfl, rfl, trivial⟩
     ·intro l1 hl1
      refine AW.weaken hl1.sub ?_
      refine AW.ifP rfl h2 (fun h2 => ?_) (fun h2 => ?_)
      ·refine AW.seq (AW.reg hn hfx rfl ?_)
       refine .cons rfl (r_copy (.inr rfl) rfl rfl) <| .nil ?_
       refine AW.sub [(4, _)] ⟨rfl, trivial⟩ ?_
       refine AW.ret ?_
       refine ⟨_, (Option.some.inj h2).symm, fun hz => ?_⟩
       subst hz
       obtain rfl := Option.some.inj h0
       exact ⟨_, .tmp rfl rfl .nil, .inl ⟨rfl, rfl⟩, .inl ⟨rfl, rfl⟩, trivial⟩
      ·refine AW.skip ?_
       refine AW.reg hn hfx rfl ?_
       refine .cons rfl (r_arith rfl rfl rfl rfl rfl) <| .cons rfl (r_copy (.inl rfl) rfl rfl) <| .nil ?_
       exact ⟨_, (Option.some.inj h2).symm, ⟨rfl, rfl, rfl, rfl, trivial⟩⟩
    ·refine AW.exit ?_
     refine ⟨_, (Option.some.inj h2).symm, fun hz => ?_⟩
     subst hz
     exact ⟨_, rfl, trivial⟩
   ·rintro s27 rfl l1 hl1
    refine AW.weaken hl1.sub ?_
    refine AW.seq (AW.reg hn hfx rfl ?_)
    refine .cons rfl (r_copy (.inr rfl) rfl rfl) <| .nil ?_
    refine AW.sub [(4, _)] ⟨rfl, trivial⟩ ?_
    refine AW.ret ?_
    obtain rfl := Option.some.inj h0
    exact ⟨_, .tmp rfl rfl .nil, .inl ⟨rfl, rfl⟩, .inl ⟨rfl, rfl⟩, trivial⟩

theorem W6  {a : (Int × ((List (Int × ((List Int) × Unit))) × Unit))} {b : (Int × ((List (Int × ((List Int) × Unit))) × Unit))} {r : (Bool × Bool)} (h0 : impl_HaveSameForm a b = some r) : Meets Try.prog 6 [⟨ty26, 0, a⟩, ⟨ty26, 0, b⟩] [⟨.bool, 0, r.1⟩, ⟨.bool, 0, r.2⟩] [⟨ty26, 0, a⟩, ⟨ty26, 0, b⟩] := by
 refine Meets.of_body (fn := Try.f6) Try.func6 rfl rfl rfl fun c hn hfx => ?_
 unfold impl_HaveSameForm at h0
 refine AW.seq (AW.reg hn hfx rfl ?_)
 refine .cons rfl (r_box [] rfl rfl rfl) <| .cons rfl (r_box [] rfl rfl rfl) <| .cons rfl (r_copy (.inr rfl) rfl rfl) <| .cons rfl (r_copy (.inr rfl) rfl rfl) <| .nil ?_
 refine AW.sub [(2, _), (3, _)] ⟨rfl, rfl, trivial⟩ ?_
 refine AW.seq ?_
 obtain ⟨z4, h1, h0⟩ := bindE h0
 refine AW.seq (AW.joinJ [(2, _), (3, _)] ⟨rfl, rfl, trivial⟩ [(17, .val .bool 0 z4)] ?_ ?_)
 ·refine AW.reg hn hfx rfl ?_
  refine .cons rfl (r_load rfl rfl rfl rfl ok26 rfl) ?_
  obtain ⟨x5, hx5, h1⟩ := bindE h1
  refine .cons rfl (r_call rfl rfl rfl Try.func29 rfl rfl (W29 hx5) rfl) <| .cons rfl (r_not rfl rfl rfl) ?_
  refine .ifP (.inl rfl) rfl rfl h1 (fun h1 => ?_) (fun h1 => ?_)
  ·refine RT.sub [(2, _), (3, _), (13, _)] ⟨rfl, rfl, rfl, trivial⟩ ?_
   refine .pass (.inl ⟨_, _, _, rfl, rfl, rfl⟩) <| .pass (.inl ⟨_, _, _, rfl, rfl, rfl⟩) <| .pass (.inl ⟨_, _, _, rfl, rfl, rfl⟩) <| .cons rfl (r_pick_true rfl rfl rfl rfl) <| .nil ?_
   obtain rfl := Option.some.inj h1
   exact ⟨rfl, rfl, rfl, trivial⟩
  ·refine RT.sub [(2, _), (3, _), (13, _)] ⟨rfl, rfl, rfl, trivial⟩ ?_
   refine .cons (.inl ⟨_, _, _, rfl, rfl, rfl⟩) (r_load rfl rfl rfl rfl ok26 rfl) ?_
   obtain ⟨x6, hx6, h1⟩ := bindE h1
   refine .cons (.inl ⟨_, _, _, rfl, rfl, rfl⟩) (r_call rfl rfl rfl Try.func29 rfl rfl (W29 hx6) rfl) <| .cons (.inl ⟨_, _, _, rfl, rfl, rfl⟩) (r_not rfl rfl rfl) <| .cons rfl (r_pick_false rfl rfl rfl rfl) <| .nil ?_
   obtain rfl := Option.some.inj h1
   exact ⟨rfl, rfl, rfl, trivial⟩
 ·intro l1 hl1
  refine AW.weaken hl1.sub ?_
  refine AW.ifP rfl h0 (fun h0 => ?_) (fun h0 => ?_)
  ·refine AW.seq (AW.reg hn hfx rfl ?_)
   refine .cons rfl (r_copy (.inr rfl) rfl rfl) <| .cons rfl (r_copy (.inr rfl) rfl rfl) <| .nil ?_
   refine AW.sub [(4, _), (5, _)] ⟨rfl, rfl, trivial⟩ ?_
   refine AW.ret ?_
   obtain rfl := Option.some.inj h0
   exact ⟨_, .tmp rfl rfl (.tmp rfl rfl .nil), .inl ⟨rfl, rfl⟩, .inl ⟨rfl, rfl⟩, trivial⟩
  ·refine AW.skip ?_
   refine AW.seq (AW.reg hn hfx rfl ?_)
   refine .cons rfl (r_load rfl rfl rfl rfl ok26 rfl) ?_
   obtain ⟨x8, hx8, h0⟩ := bindE h0
   refine .cons rfl (r_call rfl rfl rfl Try.func30 rfl rfl (W30 hx8) rfl) <| .cons rfl (r_moveTup (.inl rfl) rfl) <| .cons rfl (r_extract rfl rfl rfl) ?_
   refine RT.sub [(3, _), (18, _), (21, _)] ⟨rfl, rfl, rfl, trivial⟩ ?_
   refine .cons rfl (r_extract rfl rfl rfl) <| .cons rfl (r_alloc rfl ok26 rfl) <| .cons rfl (r_store [] rfl rfl rfl rfl rfl rfl rfl rfl ok26 rfl rfl rfl rfl) <| .cons rfl (r_assign [] (.inl rfl) rfl rfl) <| .nil ?_
   refine AW.sub [(3, _), (6, _)] ⟨rfl, rfl, trivial⟩ ?_
   refine AW.seq (AW.reg hn hfx rfl ?_)
   refine .cons rfl (r_load rfl rfl rfl rfl ok26 rfl) ?_
   obtain ⟨x9, hx9, h0⟩ := bindE h0
   refine .cons rfl (r_call rfl rfl rfl Try.func30 rfl rfl (W30 hx9) rfl) <| .cons rfl (r_moveTup (.inl rfl) rfl) <| .cons rfl (r_extract rfl rfl rfl) ?_
   refine RT.sub [(6, _), (23, _), (26, _)] ⟨rfl, rfl, rfl, trivial⟩ ?_
   refine .cons rfl (r_extract rfl rfl rfl) <| .cons rfl (r_alloc rfl ok26 rfl) <| .cons rfl (r_store [] rfl rfl rfl rfl rfl rfl rfl rfl ok26 rfl rfl rfl rfl) <| .cons rfl (r_assign [] (.inl rfl) rfl rfl) <| .nil ?_
   refine AW.sub [(6, _), (8, _)] ⟨rfl, rfl, trivial⟩ ?_
   refine AW.seq (AW.reg hn hfx rfl ?_)
   refine .cons rfl (r_load_ref rfl rfl rfl rfl ok26) <| .cons rfl (r_load_ref rfl rfl rfl rfl ok26) ?_
   obtain ⟨x10, hx10, h0⟩ := bindE h0
   refine .cons rfl (r_call rfl rfl rfl Try.func31 rfl rfl (W31 hx10) rfl) <| .cons rfl (r_copy (.inr rfl) rfl rfl) ?_
   refine RT.sub [(4, _)] ⟨rfl, trivial⟩ ?_
   refine .cons rfl (r_copy (.inr rfl) rfl rfl) <| .nil ?_
   refine AW.sub [(4, _), (5, _)] ⟨rfl, rfl, trivial⟩ ?_
   refine AW.ret ?_
   obtain rfl := Option.some.inj h0
   exact ⟨_, .tmp rfl rfl (.tmp rfl rfl .nil), .inl ⟨rfl, rfl⟩, .inl ⟨rfl, rfl⟩, trivial⟩

theorem W32  {a : (Int × ((List (Int × ((List Int) × Unit))) × Unit))} {r : Bool} (h0 : spec_l31Takes a = some r) : Meets Try.prog 32 [⟨ty26, 0, a⟩] [⟨.bool, 0, r⟩] [⟨ty26, 0, a⟩] := by
 refine Meets.of_body (fn := Try.f32) Try.func32 rfl rfl rfl fun c hn hfx => ?_
 unfold spec_l31Takes at h0
 refine AW.seq (AW.reg hn hfx rfl ?_)
 refine .cons rfl (r_box [] rfl rfl rfl) <| .cons rfl (r_copy (.inr rfl) rfl rfl) <| .nil ?_
 refine AW.sub [(1, _)] ⟨rfl, trivial⟩ ?_
 obtain ⟨z3, h1, h0⟩ := bindE h0
 refine AW.seq (AW.joinJ [] trivial [(2, .val .bool 0 z3)] ?_ ?_)
 ·refine AW.reg hn hfx rfl ?_
  refine .cons rfl (r_load rfl rfl rfl rfl ok26 rfl) ?_
  obtain ⟨x4, hx4, h1⟩ := bindE h1
  refine .cons rfl (r_call rfl rfl rfl Try.func25 rfl rfl (W25 hx4) rfl) ?_
  refine .ifP (.inl rfl) rfl rfl h1 (fun h1 => ?_) (fun h1 => ?_)
  ·refine .cons (.inl ⟨_, _, _, rfl, rfl, rfl⟩) (r_field rfl rfl rfl rfl ok26 rfl rfl) ?_
   refine RT.sub [(1, _), (5, _), (6, _)] ⟨rfl, rfl, rfl, trivial⟩ ?_
   refine .cons (.inl ⟨_, _, _, rfl, rfl, rfl⟩) (r_load rfl rfl rfl rfl ok3 rfl) <| .cons (.inl ⟨_, _, _, rfl, rfl, rfl⟩) (r_cmp rfl rfl rfl rfl rfl) <| .cons rfl (r_pick_true rfl rfl rfl rfl) <| .cons rfl (r_copy (.inr rfl) rfl rfl) <| .nil ?_
   obtain rfl := Option.some.inj h1
   exact ⟨rfl, trivial⟩
  ·refine .pass (.inl ⟨_, _, _, rfl, rfl, rfl⟩) ?_
   refine RT.sub [(5, _), (6, _)] ⟨rfl, rfl, trivial⟩ ?_
   refine .pass (.inl ⟨_, _, _, rfl, rfl, rfl⟩) <| .pass (.inl ⟨_, _, _, rfl, rfl, rfl⟩) <| .cons rfl (r_pick_false rfl rfl rfl rfl) <| .cons rfl (r_copy (.inr rfl) rfl rfl) <| .nil ?_
   obtain rfl := Option.some.inj h1
   exact ⟨rfl, trivial⟩
 ·intro l1 hl1
  refine AW.weaken hl1.sub ?_
  refine AW.ret ?_
  obtain rfl := Option.some.inj h0
  exact ⟨_, .tmp rfl rfl .nil, .inl ⟨rfl, rfl⟩, trivial⟩

end Go.Proofs.Ytoaajjhcdbbfdaa
