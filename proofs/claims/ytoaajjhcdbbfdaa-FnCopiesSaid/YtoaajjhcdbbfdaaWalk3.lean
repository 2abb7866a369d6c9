/- The walks: each function computes what its pure program says. -/
import Derived.Test.YtoaajjhcdbbfdaaWalk2
set_option linter.unusedSimpArgs false
set_option linter.unnecessarySimpa false
set_option linter.unusedVariables false
set_option maxRecDepth 100000
set_option maxHeartbeats 4000000
namespace Go.Proofs.Ytoaajjhcdbbfdaa
open Go.Abs Go.Pure
-- theorem hmix : Try.prog.follows .mixedOrders = true := by kernel_rfl
theorem W94 : ∀ (fuel : Nat)  {s : ((Int × ((List (Int × ((List Int) × Unit))) × Unit)) × ((Int × ((List (Int × ((List Int) × Unit))) × Unit)) × (Bool × (Bool × (Int × (Int × ((List (List Int)) × Unit)))))))} {f : (List Int)} {r : ((Int × ((List (Int × ((List Int) × Unit))) × Unit)) × ((Int × ((List (Int × ((List Int) × Unit))) × Unit)) × (Bool × (Bool × (Int × (Int × ((List (List Int)) × Unit)))))))} (_ : spec_l7Search_walk fuel s f = some r), Meets Try.prog 94 [⟨(.ptr (.prod (.prod tInt (.prod (.shr ty72) .unit)) (.prod (.prod tInt (.prod (.shr ty72) .unit)) (.prod .bool (.prod .bool (.prod tInt (.prod tInt (.prod ty31 .unit)))))))), 2, s⟩, ⟨ty38, 0, f⟩] [] [⟨(.ptr (.prod (.prod tInt (.prod (.shr ty72) .unit)) (.prod (.prod tInt (.prod (.shr ty72) .unit)) (.prod .bool (.prod .bool (.prod tInt (.prod tInt (.prod ty31 .unit)))))))), 2, r⟩, ⟨ty38, 0, f⟩] := by
 intro fuel
 induction fuel with
 | zero => intro  s f r h0; cases h0
 | succ fuel ih =>
 intro  s f r h0
 refine Meets.of_body (fn := Try.f94) Try.func94 rfl rfl rfl fun c hn hfx => ?_
 rw [spec_l7Search_walk] at h0
 refine AW.seq (AW.reg hn hfx rfl ?_)
 refine .cons rfl (r_copy (.inr rfl) rfl rfl) <| .nil ?_
 refine AW.sub [(0, _), (1, _), (4, _)] ⟨rfl, rfl, rfl, trivial⟩ ?_
 obtain ⟨z15, h1, h0⟩ := bindE h0
 refine AW.seq (AW.joinJ [(0, _), (1, _)] ⟨rfl, rfl, trivial⟩ [(4, .val tInt 0 z15)] ?_ ?_)
 ·refine AW.block ?_
  refine AW.loopP h1 [(0, _), (1, _)] ⟨rfl, rfl, trivial⟩ (fun s22 => [(4, .val tInt 0 s22)]) ⟨rfl, rfl, rfl, trivial⟩ fun s22 z28 h2 => ?_
  refine AW.seq ?_
  refine AW.sub [(0, _), (1, _), (4, _)] ⟨rfl, rfl, rfl, trivial⟩ ?_
  obtain ⟨z25, h3, h2⟩ := bindE h2
  refine AW.seq (AW.joinJ [(0, _), (1, _), (4, _)] ⟨rfl, rfl, rfl, trivial⟩ [(19, .val .bool 0 z25)] ?_ ?_)
  ·refine AW.reg hn hfx rfl ?_
   refine .cons rfl (r_copy (.inl rfl) rfl rfl) <| .cons rfl (r_copy (.inl rfl) rfl rfl) <| .cons rfl (r_len rfl rfl ok38 rfl) <| .cons rfl (r_cmp rfl rfl rfl rfl rfl) ?_
   refine RT.sub [(0, _), (1, _), (4, _), (12, _)] ⟨rfl, rfl, rfl, rfl, trivial⟩ ?_
   refine .ifP (.inl rfl) rfl rfl h3 (fun h3 => ?_) (fun h3 => ?_)
   ·refine .cons (.inl ⟨_, _, _, rfl, rfl, rfl⟩) (r_copy (.inl rfl) rfl rfl) <| .cons (.inl ⟨_, _, _, rfl, rfl, rfl⟩) (r_copy (.inl rfl) rfl rfl) ?_
    obtain ⟨x26, hx26, h3⟩ := bindE h3
    refine .cons (.inl ⟨_, _, _, rfl, rfl, rfl⟩) (r_index_shared rfl rfl rfl ok38 (idx_nn hx26) (idx_get hx26)) ?_
    refine RT.sub [(0, _), (1, _), (4, _), (13, _), (16, _)] ⟨rfl, rfl, rfl, rfl, rfl, trivial⟩ ?_
    refine .cons (.inl ⟨_, _, _, rfl, rfl, rfl⟩) (r_load_shared rfl rfl ok3) <| .cons (.inl ⟨_, _, _, rfl, rfl, rfl⟩) (r_cmp rfl rfl rfl rfl rfl) <| .cons rfl (r_pick_true rfl rfl rfl rfl) <| .nil ?_
    obtain rfl := Option.some.inj h3
    exact ⟨rfl, rfl, rfl, rfl, trivial⟩
   ·refine .pass (.inl ⟨_, _, _, rfl, rfl, rfl⟩) <| .pass (.inl ⟨_, _, _, rfl, rfl, rfl⟩) <| .pass (.inl ⟨_, _, _, rfl, rfl, rfl⟩) ?_
    refine RT.sub [(0, _), (1, _), (4, _), (13, _), (16, _)] ⟨rfl, rfl, rfl, rfl, rfl, trivial⟩ ?_
    refine .pass (.inl ⟨_, _, _, rfl, rfl, rfl⟩) <| .pass (.inl ⟨_, _, _, rfl, rfl, rfl⟩) <| .cons rfl (r_pick_false rfl rfl rfl rfl) <| .nil ?_
    obtain rfl := Option.some.inj h3
    exact ⟨rfl, rfl, rfl, rfl, trivial⟩
  ·intro l1 hl1
   refine AW.weaken hl1.sub ?_
   refine AW.ifP rfl h2 (fun h2 => ?_) (fun h2 => ?_)
   ·refine AW.skip ?_
    refine AW.block ?_
    refine AW.reg hn hfx rfl ?_
    refine .cons rfl (r_copy (.inl rfl) rfl rfl) <| .cons rfl (r_arith rfl rfl rfl rfl rfl) <| .cons rfl (r_copy (.inr rfl) rfl rfl) <| .nil ?_
    exact ⟨_, (Option.some.inj h2).symm, ⟨rfl, rfl, rfl, trivial⟩⟩
   ·refine AW.exit ?_
    refine ⟨_, (Option.some.inj h2).symm, fun hz => ?_⟩
    subst hz
    exact ⟨rfl, rfl, rfl, trivial⟩
 ·intro l1 hl1
  refine AW.weaken hl1.sub ?_
  refine AW.seq ?_
  refine AW.seq (AW.reg hn hfx rfl ?_)
  refine .cons rfl (r_copy (.inl rfl) rfl rfl) <| .cons rfl (r_copy (.inl rfl) rfl rfl) <| .cons rfl (r_len rfl rfl ok38 rfl) <| .cons rfl (r_cmp rfl rfl rfl rfl rfl) <| .nil ?_
  refine AW.sub [(0, _), (1, _), (4, _), (25, _)] ⟨rfl, rfl, rfl, rfl, trivial⟩ ?_
  refine AW.ifP rfl h0 (fun h0 => ?_) (fun h0 => ?_)
  ·refine AW.seq ?_
   refine AW.sub [(0, _), (1, _)] ⟨rfl, rfl, trivial⟩ ?_
   obtain ⟨z32, h1, h0⟩ := bindE h0
   refine AW.seq (AW.joinJ [(0, _), (1, _)] ⟨rfl, rfl, trivial⟩ [(39, .val .bool 0 z32)] ?_ ?_)
   ·refine AW.reg hn hfx rfl ?_
    refine .cons rfl (r_alias rfl rfl) <| .cons rfl (r_nil rfl rfl rfl) <| .cons rfl (r_field rfl rfl rfl rfl ok94h0 rfl rfl) <| .cons rfl (r_load rfl rfl rfl rfl ok4 rfl) ?_
    refine RT.sub [(0, _), (1, _), (29, _)] ⟨rfl, rfl, rfl, trivial⟩ ?_
    refine .cons rfl (r_not rfl rfl rfl) ?_
    refine .ifP (.inl rfl) rfl rfl h1 (fun h1 => ?_) (fun h1 => ?_)
    ·refine .pass (.inl ⟨_, _, _, rfl, rfl, rfl⟩) <| .pass (.inl ⟨_, _, _, rfl, rfl, rfl⟩) ?_
     refine RT.sub [(0, _), (1, _), (31, _), (33, _)] ⟨rfl, rfl, rfl, rfl, trivial⟩ ?_
     refine .pass (.inl ⟨_, _, _, rfl, rfl, rfl⟩) <| .pass (.inl ⟨_, _, _, rfl, rfl, rfl⟩) <| .pass (.inl ⟨_, _, _, rfl, rfl, rfl⟩) <| .pass (.inl ⟨_, _, _, rfl, rfl, rfl⟩) ?_
     refine RT.sub [(0, _), (1, _), (31, _), (36, _), (37, _)] ⟨rfl, rfl, rfl, rfl, rfl, trivial⟩ ?_
     refine .pass (.inl ⟨_, _, _, rfl, rfl, rfl⟩) <| .cons rfl (r_pick_true rfl rfl rfl rfl) <| .nil ?_
     obtain rfl := Option.some.inj h1
     exact ⟨rfl, rfl, rfl, trivial⟩
    ·refine .cons (.inl ⟨_, _, _, rfl, rfl, rfl⟩) (r_alias rfl rfl) <| .cons (.inl ⟨_, _, _, rfl, rfl, rfl⟩) (r_nil rfl rfl rfl) ?_
     refine RT.sub [(0, _), (1, _), (31, _), (33, _)] ⟨rfl, rfl, rfl, rfl, trivial⟩ ?_
     refine .cons (.inl ⟨_, _, _, rfl, rfl, rfl⟩) (r_field rfl rfl rfl rfl ok94h0 rfl rfl) <| .cons (.inl ⟨_, _, _, rfl, rfl, rfl⟩) (r_field rfl rfl rfl rfl ok26h2 rfl rfl) <| .cons (.inl ⟨_, _, _, rfl, rfl, rfl⟩) (r_load rfl rfl rfl rfl ok3 rfl) <| .cons (.inl ⟨_, _, _, rfl, rfl, rfl⟩) (r_copy (.inl rfl) rfl rfl) ?_
     refine RT.sub [(0, _), (1, _), (31, _), (36, _), (37, _)] ⟨rfl, rfl, rfl, rfl, rfl, trivial⟩ ?_
     obtain ⟨x33, hx33, h1⟩ := bindE h1
     refine .cons (.inl ⟨_, _, _, rfl, rfl, rfl⟩) (r_call rfl rfl rfl Try.func99 rfl rfl (W99 hx33) rfl) <| .cons rfl (r_pick_false rfl rfl rfl rfl) <| .nil ?_
     obtain rfl := Option.some.inj h1
     exact ⟨rfl, rfl, rfl, trivial⟩
   ·intro l1 hl1
    refine AW.weaken hl1.sub ?_
    refine AW.sub [(0, _), (1, _), (39, _)] ⟨rfl, rfl, rfl, trivial⟩ ?_
    obtain ⟨z37, h1, h0⟩ := bindE h0
    refine AW.joinJ [] trivial [(0, .val (.ptr (.prod (.prod tInt (.prod (.shr ty72) .unit)) (.prod (.prod tInt (.prod (.shr ty72) .unit)) (.prod .bool (.prod .bool (.prod tInt (.prod tInt (.prod ty31 .unit)))))))) 2 z37)] ?_ ?_
    ·refine AW.ifP rfl h1 (fun h1 => ?_) (fun h1 => ?_)
     ·refine AW.reg hn hfx rfl ?_
      refine .cons rfl (r_alias rfl rfl) <| .cons rfl (r_alias rfl rfl) <| .cons rfl (r_nil rfl rfl rfl) <| .cons rfl (r_field rfl rfl rfl rfl ok94h0 rfl rfl) ?_
      refine RT.sub [(0, _), (1, _), (40, _), (43, _)] ⟨rfl, rfl, rfl, rfl, trivial⟩ ?_
      refine .cons rfl (r_load_ref rfl rfl rfl rfl ok31) <| .cons rfl (r_copy (.inl rfl) rfl rfl) <| .cons rfl (r_buildSlice [] (e := ty38) (mc := 0) rfl rfl rfl ok31 rfl rfl rfl) ?_
      obtain ⟨x38, hx38, h1⟩ := bindE h1
      refine .cons rfl (r_append [] rfl rfl rfl ok31 rfl (mr := 0) rfl rfl (app_len hx38) (app_eq hx38)) ?_
      refine RT.sub [(0, _), (40, _), (47, _)] ⟨rfl, rfl, rfl, trivial⟩ ?_
      refine .cons rfl (r_nil rfl rfl rfl) <| .cons rfl (r_field rfl rfl rfl rfl ok94h1 rfl rfl) <| .cons rfl (r_store [] rfl rfl rfl rfl rfl rfl rfl rfl ok31 rfl rfl rfl rfl) <| .nil ?_
      obtain rfl := Option.some.inj h1
      exact ⟨rfl, trivial⟩
     ·refine AW.skip ?_
      obtain rfl := Option.some.inj h1
      exact ⟨rfl, trivial⟩
    ·intro l1 hl1
     refine AW.weaken hl1.sub ?_
     refine AW.ret ?_
     obtain rfl := Option.some.inj h0
     exact ⟨_, .nil, .inr ⟨nofun, rfl⟩, .inl ⟨rfl, rfl⟩, trivial⟩
  ·refine AW.skip ?_
   refine AW.seq (AW.reg hn hfx rfl ?_)
   refine .cons rfl (r_copy (.inr rfl) rfl rfl) <| .nil ?_
   refine AW.sub [(0, _), (1, _), (4, _), (5, _)] ⟨rfl, rfl, rfl, rfl, trivial⟩ ?_
   obtain ⟨z76, h1, h0⟩ := bindE h0
   refine AW.joinX z76 [] trivial (fun s75 => [(0, .val (.ptr (.prod (.prod tInt (.prod (.shr ty72) .unit)) (.prod (.prod tInt (.prod (.shr ty72) .unit)) (.prod .bool (.prod .bool (.prod tInt (.prod tInt (.prod ty31 .unit)))))))) 2 s75)]) ?_ ?_
   ·refine AW.block ?_
    refine AW.loopP h1 [(1, _), (4, _)] ⟨rfl, rfl, trivial⟩ (fun s94 => [(0, .val (.ptr (.prod (.prod tInt (.prod (.shr ty72) .unit)) (.prod (.prod tInt (.prod (.shr ty72) .unit)) (.prod .bool (.prod .bool (.prod tInt (.prod tInt (.prod ty31 .unit)))))))) 2 s94.1), (5, .val tInt 0 s94.2)]) ⟨rfl, rfl, rfl, rfl, trivial⟩ fun s94 z111 h2 => ?_
    refine AW.seq ?_
    refine AW.sub [(0, _), (1, _), (4, _), (5, _)] ⟨rfl, rfl, rfl, rfl, trivial⟩ ?_
    obtain ⟨z96, h3, h2⟩ := bindE h2
    refine AW.seq (AW.joinJ [(0, _), (1, _), (4, _), (5, _)] ⟨rfl, rfl, rfl, rfl, trivial⟩ [(75, .val .bool 0 z96)] ?_ ?_)
    ·refine AW.draw hmix hn hfx rfl rfl ?_
     refine .cons rfl (r_copy (.inl rfl) rfl rfl) rfl rfl rfl <| .cons rfl (r_aliasF rfl) rfl rfl rfl <| .cons rfl (r_nil rfl rfl rfl) rfl rfl rfl <| .cons rfl (r_field rfl rfl rfl rfl ok94h0 rfl rfl) rfl rfl rfl ?_
     refine DT.eq [(53, _), (52, _), (51, _), (50, _), (0, _), (1, _), (4, _), (5, _)] rfl ?_
     refine .cons rfl (r_field rfl rfl rfl rfl ok26h2 rfl rfl) rfl rfl rfl <| .cons rfl (r_load rfl rfl rfl rfl ok3 rfl) rfl rfl rfl <| .cons rfl (r_cmp rfl rfl rfl rfl rfl) rfl rfl rfl ?_
     refine .ifP (.inl rfl) rfl rfl (fun _ => rfl) rfl h3 (fun h3 => ?_) (fun h3 => ?_)
     ·refine DT.eq [(57, _), (56, _), (55, _), (54, _), (53, _), (52, _), (51, _), (50, _), (0, _), (1, _), (4, _), (5, _)] rfl ?_
      refine .cons (.inl ⟨_, _, _, rfl, rfl, rfl⟩) (r_aliasF rfl) rfl rfl rfl <| .cons (.inl ⟨_, _, _, rfl, rfl, rfl⟩) (r_nil rfl rfl rfl) rfl rfl rfl <| .cons (.inl ⟨_, _, _, rfl, rfl, rfl⟩) (r_field rfl rfl rfl rfl ok94h0 rfl rfl) rfl rfl rfl <| .cons (.inl ⟨_, _, _, rfl, rfl, rfl⟩) (r_load_ref rfl rfl rfl rfl ok31) rfl rfl rfl ?_
      refine DT.eq [(61, _), (60, _), (59, _), (58, _), (57, _), (56, _), (55, _), (54, _), (53, _), (52, _), (51, _), (50, _), (0, _), (1, _), (4, _), (5, _)] rfl ?_
      refine .cons (.inl ⟨_, _, _, rfl, rfl, rfl⟩) (r_len_own rfl rfl rfl rfl ok31 rfl) rfl rfl rfl <| .cons (.inl ⟨_, _, _, rfl, rfl, rfl⟩) (r_aliasF rfl) rfl rfl rfl <| .cons (.inl ⟨_, _, _, rfl, rfl, rfl⟩) (r_nil rfl rfl rfl) rfl rfl rfl <| .cons (.inl ⟨_, _, _, rfl, rfl, rfl⟩) (r_field rfl rfl rfl rfl ok94h0 rfl rfl) rfl rfl rfl ?_
      refine DT.eq [(65, _), (64, _), (63, _), (62, _), (61, _), (60, _), (59, _), (58, _), (57, _), (56, _), (55, _), (54, _), (53, _), (52, _), (51, _), (50, _), (0, _), (1, _), (4, _), (5, _)] rfl ?_
      refine .cons (.inl ⟨_, _, _, rfl, rfl, rfl⟩) (r_load rfl rfl rfl rfl ok3 rfl) rfl rfl rfl <| .cons (.inl ⟨_, _, _, rfl, rfl, rfl⟩) (r_cmp rfl rfl rfl rfl rfl) rfl rfl rfl <| .cons rfl (r_pick_true rfl rfl rfl rfl) rfl rfl rfl ?_
      refine .ifP (.inl rfl) rfl rfl (fun _ => rfl) rfl h3 (fun h3 => ?_) (fun h3 => ?_)
      ·refine DT.eq [(69, _), (68, _), (67, _), (66, _), (65, _), (64, _), (63, _), (62, _), (61, _), (60, _), (59, _), (58, _), (57, _), (56, _), (55, _), (54, _), (53, _), (52, _), (51, _), (50, _), (0, _), (1, _), (4, _), (5, _)] rfl ?_
       refine .cons (.inl ⟨_, _, _, rfl, rfl, rfl⟩) (r_aliasF rfl) rfl rfl rfl <| .cons (.inl ⟨_, _, _, rfl, rfl, rfl⟩) (r_nil rfl rfl rfl) rfl rfl rfl <| .cons (.inl ⟨_, _, _, rfl, rfl, rfl⟩) (r_field rfl rfl rfl rfl ok94h0 rfl rfl) rfl rfl rfl <| .cons (.inl ⟨_, _, _, rfl, rfl, rfl⟩) (r_load rfl rfl rfl rfl ok3 rfl) rfl rfl rfl ?_
       refine DT.eq [(73, _), (72, _), (71, _), (70, _), (69, _), (68, _), (67, _), (66, _), (65, _), (64, _), (63, _), (62, _), (61, _), (60, _), (59, _), (58, _), (57, _), (56, _), (55, _), (54, _), (53, _), (52, _), (51, _), (50, _), (0, _), (1, _), (4, _), (5, _)] rfl ?_
       refine .cons (.inl ⟨_, _, _, rfl, rfl, rfl⟩) (r_cmp rfl rfl rfl rfl rfl) rfl rfl rfl <| .cons rfl (r_pick_true rfl rfl rfl rfl) rfl rfl rfl <| .nil rfl ?_
       obtain rfl := Option.some.inj h3
       exact ⟨rfl, rfl, rfl, rfl, rfl, trivial⟩
      ·refine DT.eq [(69, _), (68, _), (67, _), (66, _), (65, _), (64, _), (63, _), (62, _), (61, _), (60, _), (59, _), (58, _), (57, _), (56, _), (55, _), (54, _), (53, _), (52, _), (51, _), (50, _), (0, _), (1, _), (4, _), (5, _)] rfl ?_
       refine .pass (.inl ⟨_, _, _, rfl, rfl, rfl⟩) rfl rfl <| .pass (.inl ⟨_, _, _, rfl, rfl, rfl⟩) rfl rfl <| .pass (.inl ⟨_, _, _, rfl, rfl, rfl⟩) rfl rfl <| .pass (.inl ⟨_, _, _, rfl, rfl, rfl⟩) rfl rfl ?_
       refine DT.eq [(73, _), (72, _), (71, _), (70, _), (69, _), (68, _), (67, _), (66, _), (65, _), (64, _), (63, _), (62, _), (61, _), (60, _), (59, _), (58, _), (57, _), (56, _), (55, _), (54, _), (53, _), (52, _), (51, _), (50, _), (0, _), (1, _), (4, _), (5, _)] rfl ?_
       refine .pass (.inl ⟨_, _, _, rfl, rfl, rfl⟩) rfl rfl <| .cons rfl (r_pick_false rfl rfl rfl rfl) rfl rfl rfl <| .nil rfl ?_
       obtain rfl := Option.some.inj h3
       exact ⟨rfl, rfl, rfl, rfl, rfl, trivial⟩
     ·refine DT.eq [(57, _), (56, _), (55, _), (54, _), (53, _), (52, _), (51, _), (50, _), (0, _), (1, _), (4, _), (5, _)] rfl ?_
      refine .pass (.inl ⟨_, _, _, rfl, rfl, rfl⟩) rfl rfl <| .pass (.inl ⟨_, _, _, rfl, rfl, rfl⟩) rfl rfl <| .pass (.inl ⟨_, _, _, rfl, rfl, rfl⟩) rfl rfl <| .pass (.inl ⟨_, _, _, rfl, rfl, rfl⟩) rfl rfl ?_
      refine DT.eq [(61, _), (60, _), (59, _), (58, _), (57, _), (56, _), (55, _), (54, _), (53, _), (52, _), (51, _), (50, _), (0, _), (1, _), (4, _), (5, _)] rfl ?_
      refine .pass (.inl ⟨_, _, _, rfl, rfl, rfl⟩) rfl rfl <| .pass (.inl ⟨_, _, _, rfl, rfl, rfl⟩) rfl rfl <| .pass (.inl ⟨_, _, _, rfl, rfl, rfl⟩) rfl rfl <| .pass (.inl ⟨_, _, _, rfl, rfl, rfl⟩) rfl rfl ?_
      refine DT.eq [(65, _), (64, _), (63, _), (62, _), (61, _), (60, _), (59, _), (58, _), (57, _), (56, _), (55, _), (54, _), (53, _), (52, _), (51, _), (50, _), (0, _), (1, _), (4, _), (5, _)] rfl ?_
      refine .pass (.inl ⟨_, _, _, rfl, rfl, rfl⟩) rfl rfl <| .pass (.inl ⟨_, _, _, rfl, rfl, rfl⟩) rfl rfl <| .cons rfl (r_pick_false rfl rfl rfl rfl) rfl rfl rfl <| .cons rfl (r_copy (.inl rfl) rfl rfl) rfl rfl rfl ?_
      refine DT.eq [(69, _), (68, _), (67, _), (66, _), (65, _), (64, _), (63, _), (62, _), (61, _), (60, _), (59, _), (58, _), (57, _), (56, _), (55, _), (54, _), (53, _), (52, _), (51, _), (50, _), (0, _), (1, _), (4, _), (5, _)] rfl ?_
      refine .pass (.inl ⟨_, _, _, rfl, rfl, rfl⟩) rfl rfl <| .pass (.inl ⟨_, _, _, rfl, rfl, rfl⟩) rfl rfl <| .pass (.inl ⟨_, _, _, rfl, rfl, rfl⟩) rfl rfl <| .pass (.inl ⟨_, _, _, rfl, rfl, rfl⟩) rfl rfl ?_
      refine DT.eq [(73, _), (72, _), (71, _), (70, _), (69, _), (68, _), (67, _), (66, _), (65, _), (64, _), (63, _), (62, _), (61, _), (60, _), (59, _), (58, _), (57, _), (56, _), (55, _), (54, _), (53, _), (52, _), (51, _), (50, _), (0, _), (1, _), (4, _), (5, _)] rfl ?_
      refine .pass (.inl ⟨_, _, _, rfl, rfl, rfl⟩) rfl rfl <| .cons rfl (r_pick_false rfl rfl rfl rfl) rfl rfl rfl <| .nil rfl ?_
      obtain rfl := Option.some.inj h3
      exact ⟨rfl, rfl, rfl, rfl, rfl, trivial⟩
    ·intro l1 hl1
     refine AW.weaken hl1.sub ?_
     refine AW.ifP rfl h2 (fun h2 => ?_) (fun h2 => ?_)
     ·refine AW.skip ?_
      refine AW.seq (AW.block ?_)
      refine AW.seq (AW.reg hn hfx rfl ?_)
      refine .cons rfl (r_alias rfl rfl) <| .cons rfl (r_nil rfl rfl rfl) <| .cons rfl (r_field rfl rfl rfl rfl ok94h0 rfl rfl) <| .cons rfl (r_load rfl rfl rfl rfl ok3 rfl) ?_
      refine RT.sub [(0, _), (1, _), (4, _), (5, _), (78, _), (81, _)] ⟨rfl, rfl, rfl, rfl, rfl, rfl, trivial⟩ ?_
      refine .cons rfl (r_arith rfl rfl rfl rfl rfl) <| .cons rfl (r_nil rfl rfl rfl) <| .cons rfl (r_field rfl rfl rfl rfl ok94h0 rfl rfl) <| .cons rfl (r_store [] rfl rfl rfl rfl rfl rfl rfl rfl ok3 rfl rfl rfl rfl) <| .nil ?_
      refine AW.sub [(0, _), (1, _), (4, _), (5, _)] ⟨rfl, rfl, rfl, rfl, trivial⟩ ?_
      refine AW.seq ?_
      refine AW.seq (AW.reg hn hfx rfl ?_)
      refine .cons rfl (r_alias rfl rfl) <| .cons rfl (r_nil rfl rfl rfl) <| .cons rfl (r_field rfl rfl rfl rfl ok94h0 rfl rfl) <| .cons rfl (r_load rfl rfl rfl rfl ok3 rfl) ?_
      refine RT.sub [(0, _), (1, _), (4, _), (5, _), (88, _)] ⟨rfl, rfl, rfl, rfl, rfl, trivial⟩ ?_
      refine .cons rfl (r_cmp rfl rfl rfl rfl rfl) <| .nil ?_
      refine AW.sub [(0, _), (1, _), (4, _), (5, _), (89, _)] ⟨rfl, rfl, rfl, rfl, rfl, trivial⟩ ?_
      refine AW.ifP rfl h2 (fun h2 => ?_) (fun h2 => ?_)
      ·refine AW.ret ?_
       refine ⟨_, (Option.some.inj h2).symm, fun hz => ?_⟩
       subst hz
       obtain rfl := Option.some.inj h0
       exact ⟨_, .nil, .inr ⟨nofun, rfl⟩, .inl ⟨rfl, rfl⟩, trivial⟩
      ·refine AW.skip ?_
       refine AW.seq (AW.reg hn hfx rfl ?_)
       refine .cons rfl (r_copy (.inl rfl) rfl rfl) ?_
       obtain ⟨x98, hx98, h2⟩ := bindE h2
       refine .cons rfl (r_call rfl rfl rfl Try.func72 rfl rfl (W72 hx98) rfl) <| .cons rfl (r_assign [] (.inl rfl) rfl rfl) <| .nil ?_
       refine AW.sub [(0, _), (1, _), (4, _), (5, _), (6, _)] ⟨rfl, rfl, rfl, rfl, rfl, trivial⟩ ?_
       refine AW.seq (AW.reg hn hfx rfl ?_)
       refine .cons rfl (r_alias rfl rfl) <| .cons rfl (r_copy (.inl rfl) rfl rfl) <| .cons rfl (r_copy (.inl rfl) rfl rfl) ?_
       obtain ⟨x99, hx99, h2⟩ := bindE h2
       refine .cons rfl (r_index_own rfl rfl rfl rfl rfl ok38 (idx_nn hx99) (idx_lt hx99)) ?_
       refine RT.sub [(0, _), (1, _), (4, _), (5, _), (6, _), (94, _), (95, _)] ⟨rfl, rfl, rfl, rfl, rfl, rfl, rfl, trivial⟩ ?_
       refine .cons rfl (r_store [] rfl rfl rfl rfl rfl rfl rfl (sub_app rfl (sub_e (idx_get hx99))) ok3 rfl rfl rfl (repl_app rfl (repl_e (idx_get hx99)) rfl)) <| .nil ?_
       refine AW.sub [(0, _), (1, _), (4, _), (5, _), (6, _)] ⟨rfl, rfl, rfl, rfl, rfl, trivial⟩ ?_
       refine AW.seq (AW.draw hmix hn hfx rfl rfl ?_)
       refine .cons rfl (r_aliasF rfl) rfl rfl rfl <| .cons rfl (r_nil rfl rfl rfl) rfl rfl rfl <| .cons rfl (r_field rfl rfl rfl rfl ok94h0 rfl rfl) rfl rfl rfl <| .cons rfl (r_load_ref rfl rfl rfl rfl ok26h2) rfl rfl rfl ?_
       refine DT.eq [(100, _), (99, _), (98, _), (97, _), (0, _), (1, _), (4, _), (5, _), (6, _)] rfl ?_
       refine .cons rfl (r_aliasF rfl) rfl rfl rfl <| .cons rfl (r_nil rfl rfl rfl) rfl rfl rfl <| .cons rfl (r_field rfl rfl rfl rfl ok94h0 rfl rfl) rfl rfl rfl <| .cons rfl (r_load_ref rfl rfl rfl rfl ok26h2) rfl rfl rfl ?_
       refine DT.eq [(104, _), (103, _), (102, _), (101, _), (100, _), (99, _), (98, _), (97, _), (0, _), (1, _), (4, _), (5, _), (6, _)] rfl ?_
       refine .cons rfl (r_aliasF rfl) rfl rfl rfl ?_
       obtain ⟨x100, hx100, h2⟩ := bindE h2
       refine .cons rfl (SR.lowerTup (r_call rfl rfl rfl Try.func92 rfl rfl (Meets.castIn (.cons (castV_strip (t := (.prod tInt (.prod (.shr ty72) .unit))) (x := s94.1.1)) (.cons (castV_strip (t := (.prod tInt (.prod (.shr ty72) .unit))) (x := s94.1.2.1)) (.same .nil))) (W92 hx100)) rfl)) rfl rfl rfl <| .cons rfl (r_moveTup (.inl rfl) rfl) rfl rfl rfl <| .cons rfl (r_extract_copy rfl rfl rfl rfl) rfl rfl rfl ?_
       refine DT.eq [(107, _), (96, _), (105, _), (104, _), (103, _), (102, _), (101, _), (100, _), (99, _), (98, _), (97, _), (0, _), (1, _), (4, _), (5, _), (6, _)] rfl ?_
       refine .cons rfl (r_extract_copy rfl rfl rfl rfl) rfl rfl rfl <| .cons rfl (r_copy (.inr rfl) rfl rfl) rfl rfl rfl <| .cons rfl (r_copy (.inr rfl) rfl rfl) rfl rfl rfl <| .nil rfl ?_
       refine AW.sub [(0, _), (1, _), (4, _), (5, _), (7, _), (8, _)] ⟨rfl, rfl, rfl, rfl, rfl, rfl, trivial⟩ ?_
       obtain ⟨z103, h3, h2⟩ := bindE h2
       refine AW.seq (AW.joinJ [(0, _), (1, _), (4, _), (5, _), (7, _)] ⟨rfl, rfl, rfl, rfl, rfl, trivial⟩ [(120, .val .bool 0 z103)] ?_ ?_)
       ·refine AW.reg hn hfx rfl ?_
        refine .cons rfl (r_copy (.inl rfl) rfl rfl) ?_
        refine .ifP (.inl rfl) rfl rfl h3 (fun h3 => ?_) (fun h3 => ?_)
        ·refine .cons (.inl ⟨_, _, _, rfl, rfl, rfl⟩) (r_alias rfl rfl) <| .cons (.inl ⟨_, _, _, rfl, rfl, rfl⟩) (r_nil rfl rfl rfl) ?_
         refine RT.sub [(0, _), (1, _), (4, _), (5, _), (7, _), (110, _), (112, _)] ⟨rfl, rfl, rfl, rfl, rfl, rfl, rfl, trivial⟩ ?_
         refine .cons (.inl ⟨_, _, _, rfl, rfl, rfl⟩) (r_field rfl rfl rfl rfl ok94h0 rfl rfl) <| .cons (.inl ⟨_, _, _, rfl, rfl, rfl⟩) (r_load rfl rfl rfl rfl ok4 rfl) <| .cons (.inl ⟨_, _, _, rfl, rfl, rfl⟩) (r_not rfl rfl rfl) ?_
         refine .ifP (.inl rfl) rfl (.inl ⟨_, _, _, rfl, rfl, rfl⟩) h3 (fun h3 => ?_) (fun h3 => ?_)
         ·refine RT.sub [(0, _), (1, _), (4, _), (5, _), (7, _), (110, _), (116, _)] ⟨rfl, rfl, rfl, rfl, rfl, rfl, rfl, trivial⟩ ?_
          refine .pass (.inl ⟨_, _, _, rfl, rfl, rfl⟩) <| .pass (.inl ⟨_, _, _, rfl, rfl, rfl⟩) <| .cons (.inl ⟨_, _, _, rfl, rfl, rfl⟩) (r_pick_true rfl rfl rfl rfl) <| .cons rfl (r_pick_true rfl rfl rfl rfl) <| .nil ?_
          obtain rfl := Option.some.inj h3
          exact ⟨rfl, rfl, rfl, rfl, rfl, rfl, trivial⟩
         ·refine RT.sub [(0, _), (1, _), (4, _), (5, _), (7, _), (110, _), (116, _)] ⟨rfl, rfl, rfl, rfl, rfl, rfl, rfl, trivial⟩ ?_
          refine .cons (.inl ⟨_, _, _, rfl, rfl, rfl⟩) (r_copy (.inl rfl) rfl rfl) ?_
          obtain ⟨x104, hx104, h3⟩ := bindE h3
          refine .cons (.inl ⟨_, _, _, rfl, rfl, rfl⟩) (r_call rfl rfl rfl Try.func93 rfl rfl (W93 hx104) rfl) <| .cons (.inl ⟨_, _, _, rfl, rfl, rfl⟩) (r_pick_false rfl rfl rfl rfl) <| .cons rfl (r_pick_true rfl rfl rfl rfl) <| .nil ?_
          obtain rfl := Option.some.inj h3
          exact ⟨rfl, rfl, rfl, rfl, rfl, rfl, trivial⟩
        ·refine .pass (.inl ⟨_, _, _, rfl, rfl, rfl⟩) <| .pass (.inl ⟨_, _, _, rfl, rfl, rfl⟩) ?_
         refine RT.sub [(0, _), (1, _), (4, _), (5, _), (7, _), (110, _), (112, _)] ⟨rfl, rfl, rfl, rfl, rfl, rfl, rfl, trivial⟩ ?_
         refine .pass (.inl ⟨_, _, _, rfl, rfl, rfl⟩) <| .pass (.inl ⟨_, _, _, rfl, rfl, rfl⟩) <| .pass (.inl ⟨_, _, _, rfl, rfl, rfl⟩) <| .pass (.inl ⟨_, _, _, rfl, rfl, rfl⟩) ?_
         refine RT.sub [(0, _), (1, _), (4, _), (5, _), (7, _), (110, _), (116, _)] ⟨rfl, rfl, rfl, rfl, rfl, rfl, rfl, trivial⟩ ?_
         refine .pass (.inr ⟨_, _, rfl, rfl, rfl⟩) <| .pass (.inr ⟨_, _, rfl, rfl, rfl⟩) <| .pass (.inl ⟨_, _, _, rfl, rfl, rfl⟩) <| .cons rfl (r_pick_false rfl rfl rfl rfl) <| .nil ?_
         obtain rfl := Option.some.inj h3
         exact ⟨rfl, rfl, rfl, rfl, rfl, rfl, trivial⟩
       ·intro l1 hl1
        refine AW.weaken hl1.sub ?_
        refine AW.sub [(0, _), (1, _), (4, _), (5, _), (7, _), (120, _)] ⟨rfl, rfl, rfl, rfl, rfl, rfl, trivial⟩ ?_
        obtain ⟨z108, h3, h2⟩ := bindE h2
        refine AW.joinJ [(1, _), (4, _), (5, _)] ⟨rfl, rfl, rfl, trivial⟩ [(0, .val (.ptr (.prod (.prod tInt (.prod (.shr ty72) .unit)) (.prod (.prod tInt (.prod (.shr ty72) .unit)) (.prod .bool (.prod .bool (.prod tInt (.prod tInt (.prod ty31 .unit)))))))) 2 z108)] ?_ ?_
        ·refine AW.ifP rfl h3 (fun h3 => ?_) (fun h3 => ?_)
         ·refine AW.reg hn hfx rfl ?_
          refine .cons rfl (r_alias rfl rfl) <| .cons rfl (r_copy (.inl rfl) rfl rfl) ?_
          obtain ⟨x109, hx109, h3⟩ := bindE h3
          refine .cons rfl (r_callM [] rfl rfl rfl Try.func94 rfl rfl (fun us0 _ => (ih hx109).toU (us0 ++ [])) (.io rfl (.lend rfl .nil)) rfl) <| .nil ?_
          obtain rfl := Option.some.inj h3
          exact ⟨rfl, rfl, rfl, rfl, trivial⟩
         ·refine AW.skip ?_
          obtain rfl := Option.some.inj h3
          exact ⟨rfl, rfl, rfl, rfl, trivial⟩
        ·intro l1 hl1
         refine AW.weaken hl1.sub ?_
         refine AW.reg hn hfx rfl ?_
         refine .cons rfl (r_copy (.inl rfl) rfl rfl) <| .cons rfl (r_arith rfl rfl rfl rfl rfl) <| .cons rfl (r_copy (.inr rfl) rfl rfl) <| .nil ?_
         exact ⟨_, (Option.some.inj h2).symm, ⟨rfl, rfl, rfl, rfl, trivial⟩⟩
     ·refine AW.exit ?_
      refine ⟨_, (Option.some.inj h2).symm, fun hz => ?_⟩
      subst hz
      exact ⟨_, rfl, ⟨rfl, trivial⟩⟩
   ·rintro s75 rfl l1 hl1
    obtain rfl := Option.some.inj h0
    exact ⟨_, .nil, .inr ⟨nofun, (Sub.via (m := [(0, _)]) hl1 ⟨rfl, trivial⟩).1⟩, .inl ⟨rfl, rfl⟩, trivial⟩

theorem W75  {a : (Int × ((List (Int × ((List Int) × Unit))) × Unit))} {b : (Int × ((List (Int × ((List Int) × Unit))) × Unit))} {into : Bool} {onto : Bool} {most : Int} {r : ((List (List Int)) × Bool)} (h0 : spec_l7Find a b into onto most = some r) : Meets Try.prog 75 [⟨ty26, 0, a⟩, ⟨ty26, 0, b⟩, ⟨.bool, 0, into⟩, ⟨.bool, 0, onto⟩, ⟨tInt, 0, most⟩] [⟨ty31, 0, r.1⟩, ⟨.bool, 0, r.2⟩] [⟨ty26, 0, a⟩, ⟨ty26, 0, b⟩, ⟨.bool, 0, into⟩, ⟨.bool, 0, onto⟩, ⟨tInt, 0, most⟩] := by
 refine Meets.of_body (fn := Try.f75) Try.func75 rfl rfl rfl fun c hn hfx => ?_
 unfold spec_l7Find at h0
 refine AW.seq (AW.reg hn hfx rfl ?_)
 refine .cons rfl (r_box [] rfl rfl rfl) <| .cons rfl (r_box [] rfl rfl rfl) <| .cons rfl (r_nilS (m := 2) (.inr rfl) ok31) <| .cons rfl (r_copy (.inr rfl) rfl rfl) <| .nil ?_
 refine AW.sub [(2, _), (3, _), (4, _), (5, _), (6, _)] ⟨rfl, rfl, rfl, rfl, rfl, trivial⟩ ?_
 refine AW.seq (AW.reg hn hfx rfl ?_)
 refine .cons rfl (r_load rfl rfl rfl rfl ok26 rfl) <| .cons rfl (r_load rfl rfl rfl rfl ok26 rfl) <| .cons rfl (r_copy (.inl rfl) rfl rfl) <| .cons rfl (r_copy (.inl rfl) rfl rfl) ?_
 refine RT.sub [(2, _), (4, _), (5, _), (6, _), (17, _), (18, _), (19, _), (20, _)] ⟨rfl, rfl, rfl, rfl, rfl, rfl, rfl, rfl, trivial⟩ ?_
 refine .cons rfl (r_copy (.inl rfl) rfl rfl) <| .cons rfl (r_buildSlice [] (e := ty38) (mc := 1) rfl rfl rfl ok31 rfl rfl rfl) <| .cons rfl (r_buildC [] rfl rfl rfl (.cons (castV_shr (m := 2) rfl rfl) (.cons (castV_shr (m := 2) rfl rfl) (.same (.same (.same (.same .nil)))))) ok94h0 ⟨_, _, rfl⟩ rfl rfl (mc := 2)) <| .cons rfl (r_box [] rfl rfl rfl) ?_
 refine RT.sub [(2, _), (5, _), (6, _), (24, _)] ⟨rfl, rfl, rfl, rfl, trivial⟩ ?_
 refine .cons rfl (SR.lower 2 (r_assign [] (.inl rfl) rfl rfl)) <| .nil ?_
 refine AW.sub [(2, _), (5, _), (6, _), (12, _)] ⟨rfl, rfl, rfl, rfl, trivial⟩ ?_
 refine AW.seq (AW.reg hn hfx rfl ?_)
 refine .cons rfl (r_buildSlice [] (e := tInt) (mc := 0) rfl rfl rfl ok38 rfl rfl rfl) <| .cons rfl (r_assign [] (.inl rfl) rfl rfl) <| .nil ?_
 refine AW.sub [(2, _), (5, _), (6, _), (12, _), (13, _)] ⟨rfl, rfl, rfl, rfl, rfl, trivial⟩ ?_
 refine AW.seq ?_
 refine AW.seq (AW.reg hn hfx rfl ?_)
 refine .cons rfl (r_copy (.inr rfl) rfl rfl) <| .nil ?_
 refine AW.sub [(2, _), (5, _), (6, _), (12, _), (13, _), (14, _)] ⟨rfl, rfl, rfl, rfl, rfl, rfl, trivial⟩ ?_
 obtain ⟨z7, h1, h0⟩ := bindE h0
 refine AW.joinJ [(2, _), (5, _), (6, _), (12, _)] ⟨rfl, rfl, rfl, rfl, trivial⟩ [(13, .val ty38 1 z7)] ?_ ?_
 ·refine AW.block ?_
  refine AW.loopP h1 [(2, _), (5, _), (6, _), (12, _)] ⟨rfl, rfl, rfl, rfl, trivial⟩ (fun s10 => [(13, .val ty38 1 s10.1), (14, .val tInt 0 s10.2)]) ⟨rfl, rfl, rfl, rfl, rfl, rfl, trivial⟩ fun s10 z12 h2 => ?_
  refine AW.seq ?_
  refine AW.seq (AW.reg hn hfx rfl ?_)
  refine .cons rfl (r_copy (.inl rfl) rfl rfl) <| .cons rfl (r_field rfl rfl rfl rfl ok26 rfl rfl) <| .cons rfl (r_load rfl rfl rfl rfl ok3 rfl) <| .cons rfl (r_cmp rfl rfl rfl rfl rfl) <| .nil ?_
  refine AW.sub [(2, _), (5, _), (6, _), (12, _), (13, _), (14, _), (29, _)] ⟨rfl, rfl, rfl, rfl, rfl, rfl, rfl, trivial⟩ ?_
  refine AW.ifP rfl h2 (fun h2 => ?_) (fun h2 => ?_)
  ·refine AW.skip ?_
   refine AW.seq (AW.block ?_)
   refine AW.reg hn hfx rfl ?_
   refine .cons rfl (r_alias rfl rfl) <| .cons rfl (r_buildSlice [] (e := tInt) (mc := 0) rfl rfl rfl ok38 rfl rfl rfl) ?_
   obtain ⟨x11, hx11, h2⟩ := bindE h2
   refine .cons rfl (r_append [] rfl rfl rfl ok38 rfl (mr := 0) rfl rfl (app_len hx11) (app_eq hx11)) <| .cons rfl (r_assign [] (.inl rfl) rfl rfl) <| .nil ?_
   refine AW.sub [(2, _), (5, _), (6, _), (12, _), (13, _), (14, _)] ⟨rfl, rfl, rfl, rfl, rfl, rfl, trivial⟩ ?_
   refine AW.reg hn hfx rfl ?_
   refine .cons rfl (r_copy (.inl rfl) rfl rfl) <| .cons rfl (r_arith rfl rfl rfl rfl rfl) <| .cons rfl (r_copy (.inr rfl) rfl rfl) <| .nil ?_
   exact ⟨_, (Option.some.inj h2).symm, ⟨rfl, rfl, rfl, rfl, rfl, rfl, trivial⟩⟩
  ·refine AW.exit ?_
   refine ⟨_, (Option.some.inj h2).symm, fun hz => ?_⟩
   subst hz
   exact ⟨rfl, rfl, rfl, rfl, rfl, trivial⟩
 ·intro l1 hl1
  refine AW.weaken hl1.sub ?_
  refine AW.seq (AW.reg hn hfx rfl ?_)
  refine .cons rfl (r_load rfl rfl rfl rfl ok26 rfl) <| .cons rfl (r_load rfl rfl rfl rfl ok26 rfl) <| .cons rfl (r_alias rfl rfl) ?_
  obtain ⟨x14, hx14, h0⟩ := bindE h0
  refine .cons rfl (r_call rfl rfl rfl Try.func92 rfl rfl (W92 hx14) rfl) ?_
  refine RT.sub [(2, _), (12, _), (39, _)] ⟨rfl, rfl, rfl, trivial⟩ ?_
  refine .cons rfl (r_moveTup (.inl rfl) rfl) <| .cons rfl (r_extract rfl rfl rfl) <| .cons rfl (r_extract_copy rfl rfl rfl rfl) <| .cons rfl (r_assign [] (.inl rfl) rfl rfl) ?_
  refine RT.sub [(2, _), (12, _), (15, _), (41, _)] ⟨rfl, rfl, rfl, rfl, trivial⟩ ?_
  refine .cons rfl (r_copy (.inr rfl) rfl rfl) <| .nil ?_
  refine AW.sub [(2, _), (12, _), (15, _), (16, _)] ⟨rfl, rfl, rfl, rfl, trivial⟩ ?_
  refine AW.seq ?_
  obtain ⟨z17, h1, h0⟩ := bindE h0
  refine AW.seq (AW.joinJ [(12, _), (15, _)] ⟨rfl, rfl, trivial⟩ [(50, .val .bool 0 z17)] ?_ ?_)
  ·refine AW.reg hn hfx rfl ?_
   refine .cons rfl (r_copy (.inl rfl) rfl rfl) ?_
   refine .ifP (.inl rfl) rfl rfl h1 (fun h1 => ?_) (fun h1 => ?_)
   ·refine .cons (.inl ⟨_, _, _, rfl, rfl, rfl⟩) (r_copy (.inl rfl) rfl rfl) <| .cons (.inl ⟨_, _, _, rfl, rfl, rfl⟩) (r_not rfl rfl rfl) ?_
    refine RT.sub [(12, _), (15, _), (43, _), (45, _)] ⟨rfl, rfl, rfl, rfl, trivial⟩ ?_
    refine .ifP (.inl rfl) rfl (.inl ⟨_, _, _, rfl, rfl, rfl⟩) h1 (fun h1 => ?_) (fun h1 => ?_)
    ·refine .pass (.inl ⟨_, _, _, rfl, rfl, rfl⟩) <| .pass (.inl ⟨_, _, _, rfl, rfl, rfl⟩) <| .cons (.inl ⟨_, _, _, rfl, rfl, rfl⟩) (r_pick_true rfl rfl rfl rfl) ?_
     refine RT.sub [(12, _), (15, _), (43, _), (49, _)] ⟨rfl, rfl, rfl, rfl, trivial⟩ ?_
     refine .cons rfl (r_pick_true rfl rfl rfl rfl) <| .nil ?_
     obtain rfl := Option.some.inj h1
     exact ⟨rfl, rfl, rfl, trivial⟩
    ·refine .cons (.inl ⟨_, _, _, rfl, rfl, rfl⟩) (r_alias rfl rfl) ?_
     obtain ⟨x18, hx18, h1⟩ := bindE h1
     refine .cons (.inl ⟨_, _, _, rfl, rfl, rfl⟩) (r_call rfl rfl rfl Try.func93 rfl rfl (W93 hx18) rfl) <| .cons (.inl ⟨_, _, _, rfl, rfl, rfl⟩) (r_pick_false rfl rfl rfl rfl) ?_
     refine RT.sub [(12, _), (15, _), (43, _), (49, _)] ⟨rfl, rfl, rfl, rfl, trivial⟩ ?_
     refine .cons rfl (r_pick_true rfl rfl rfl rfl) <| .nil ?_
     obtain rfl := Option.some.inj h1
     exact ⟨rfl, rfl, rfl, trivial⟩
   ·refine .pass (.inl ⟨_, _, _, rfl, rfl, rfl⟩) <| .pass (.inl ⟨_, _, _, rfl, rfl, rfl⟩) ?_
    refine RT.sub [(12, _), (15, _), (43, _), (45, _)] ⟨rfl, rfl, rfl, rfl, trivial⟩ ?_
    refine .pass (.inl ⟨_, _, _, rfl, rfl, rfl⟩) <| .pass (.inr ⟨_, _, rfl, rfl, rfl⟩) <| .pass (.inr ⟨_, _, rfl, rfl, rfl⟩) <| .pass (.inl ⟨_, _, _, rfl, rfl, rfl⟩) ?_
    refine RT.sub [(12, _), (15, _), (43, _), (49, _)] ⟨rfl, rfl, rfl, rfl, trivial⟩ ?_
    refine .cons rfl (r_pick_false rfl rfl rfl rfl) <| .nil ?_
    obtain rfl := Option.some.inj h1
    exact ⟨rfl, rfl, rfl, trivial⟩
  ·intro l1 hl1
   refine AW.weaken hl1.sub ?_
   refine AW.sub [(12, _), (15, _), (50, _)] ⟨rfl, rfl, rfl, trivial⟩ ?_
   obtain ⟨z22, h1, h0⟩ := bindE h0
   refine AW.joinJ [] trivial [(12, .val (.ptr (.prod (.prod tInt (.prod (.shr ty72) .unit)) (.prod (.prod tInt (.prod (.shr ty72) .unit)) (.prod .bool (.prod .bool (.prod tInt (.prod tInt (.prod ty31 .unit)))))))) 2 z22)] ?_ ?_
   ·refine AW.ifP rfl h1 (fun h1 => ?_) (fun h1 => ?_)
    ·refine AW.reg hn hfx rfl ?_
     refine .cons rfl (r_alias rfl rfl) <| .cons rfl (r_alias rfl rfl) ?_
     refine RT.lower 15 0 rfl ?_
     obtain ⟨x23, hx23, h1⟩ := bindE h1
     refine .cons rfl (r_callM [] rfl rfl rfl Try.func94 rfl rfl (fun us0 _ => (W94 30 hx23).toU (us0 ++ [])) (.io rfl (.lend rfl .nil)) rfl) <| .nil ?_
     obtain rfl := Option.some.inj h1
     exact ⟨rfl, trivial⟩
    ·refine AW.skip ?_
     obtain rfl := Option.some.inj h1
     exact ⟨rfl, trivial⟩
   ·intro l1 hl1
    refine AW.weaken hl1.sub ?_
    refine AW.lower 12 1 rfl ?_
    refine AW.seq (AW.draw hmix hn hfx rfl rfl ?_)
    refine .cons rfl (r_aliasF rfl) rfl rfl rfl <| .cons rfl (r_nil rfl rfl rfl) rfl rfl rfl <| .cons rfl (r_field rfl rfl rfl rfl ok94h0 rfl rfl) rfl rfl rfl <| .cons rfl (r_load rfl rfl rfl rfl ok31 rfl) rfl rfl rfl ?_
    refine DT.eq [(57, _), (56, _), (55, _), (54, _), (12, _)] rfl ?_
    refine .cons rfl (r_aliasF rfl) rfl rfl rfl <| .cons rfl (r_nil rfl rfl rfl) rfl rfl rfl <| .cons rfl (r_field rfl rfl rfl rfl ok94h0 rfl rfl) rfl rfl rfl <| .cons rfl (r_load rfl rfl rfl rfl ok3 rfl) rfl rfl rfl ?_
    refine DT.eq [(61, _), (60, _), (59, _), (58, _), (57, _), (56, _), (55, _), (54, _), (12, _)] rfl ?_
    refine .cons rfl (r_cmp rfl rfl rfl rfl rfl) rfl rfl rfl <| .cons rfl (r_copy (.inr rfl) rfl rfl) rfl rfl rfl <| .cons rfl (r_copy (.inr rfl) rfl rfl) rfl rfl rfl <| .nil rfl ?_
    refine AW.sub [(10, _), (11, _)] ⟨rfl, rfl, trivial⟩ ?_
    refine AW.ret ?_
    obtain rfl := Option.some.inj h0
    exact ⟨_, .tmp rfl rfl (.tmp rfl rfl .nil), .inl ⟨rfl, rfl⟩, .inl ⟨rfl, rfl⟩, .inl ⟨rfl, rfl⟩, .inl ⟨rfl, rfl⟩, .inl ⟨rfl, rfl⟩, trivial⟩

theorem W47  {a : (Int × ((List (Int × ((List Int) × Unit))) × Unit))} {r : ((List (List Int)) × Bool)} (h0 : spec_l7Auts a = some r) : Meets Try.prog 47 [⟨ty26, 0, a⟩] [⟨ty31, 0, r.1⟩, ⟨.bool, 0, r.2⟩] [⟨ty26, 0, a⟩] := by
 refine Meets.of_body (fn := Try.f47) Try.func47 rfl rfl rfl fun c hn hfx => ?_
 unfold spec_l7Auts at h0
 refine AW.seq (AW.reg hn hfx rfl ?_)
 refine .cons rfl (r_box [] rfl rfl rfl) <| .cons rfl (r_nilS (m := 2) (.inr rfl) ok31) <| .cons rfl (r_copy (.inr rfl) rfl rfl) <| .nil ?_
 refine AW.sub [(1, _)] ⟨rfl, trivial⟩ ?_
 refine AW.seq (AW.reg hn hfx rfl ?_)
 refine .cons rfl (r_load rfl rfl rfl rfl ok26 rfl) <| .cons rfl (r_load rfl rfl rfl rfl ok26 rfl) ?_
 obtain ⟨x1, hx1, h0⟩ := bindE h0
 refine .cons rfl (r_callG none rfl rfl Try.func75 rfl rfl (W75 hx1) ⟨rfl, rfl, rfl, rfl, rfl, trivial⟩ rfl) <| .cons rfl (r_moveTup (.inl rfl) rfl) ?_
 refine RT.sub [(6, _)] ⟨rfl, trivial⟩ ?_
 refine .cons rfl (r_extract_copy rfl rfl rfl rfl) <| .cons rfl (r_extract_copy rfl rfl rfl rfl) <| .cons rfl (r_copy (.inr rfl) rfl rfl) <| .cons rfl (r_copy (.inr rfl) rfl rfl) <| .nil ?_
 refine AW.sub [(4, _), (5, _)] ⟨rfl, rfl, trivial⟩ ?_
 refine AW.seq ?_
 obtain ⟨z3, h1, h0⟩ := bindE h0
 refine AW.seq (AW.joinJ [(4, _)] ⟨rfl, trivial⟩ [(18, .val .bool 0 z3)] ?_ ?_)
 ·refine AW.reg hn hfx rfl ?_
  refine .cons rfl (r_copy (.inl rfl) rfl rfl) <| .cons rfl (r_not rfl rfl rfl) ?_
  refine .ifP (.inl rfl) rfl rfl h1 (fun h1 => ?_) (fun h1 => ?_)
  ·refine .pass (.inl ⟨_, _, _, rfl, rfl, rfl⟩) ?_
   refine RT.sub [(4, _), (14, _), (15, _)] ⟨rfl, rfl, rfl, trivial⟩ ?_
   refine .pass (.inl ⟨_, _, _, rfl, rfl, rfl⟩) <| .pass (.inl ⟨_, _, _, rfl, rfl, rfl⟩) <| .cons rfl (r_pick_true rfl rfl rfl rfl) <| .nil ?_
   obtain rfl := Option.some.inj h1
   exact ⟨rfl, rfl, trivial⟩
  ·refine .cons (.inl ⟨_, _, _, rfl, rfl, rfl⟩) (r_copy (.inl rfl) rfl rfl) ?_
   refine RT.sub [(4, _), (14, _), (15, _)] ⟨rfl, rfl, rfl, trivial⟩ ?_
   refine .cons (.inl ⟨_, _, _, rfl, rfl, rfl⟩) (r_len rfl rfl ok31 rfl) <| .cons (.inl ⟨_, _, _, rfl, rfl, rfl⟩) (r_cmp rfl rfl rfl rfl rfl) <| .cons rfl (r_pick_false rfl rfl rfl rfl) <| .nil ?_
   obtain rfl := Option.some.inj h1
   exact ⟨rfl, rfl, trivial⟩
 ·intro l1 hl1
  refine AW.weaken hl1.sub ?_
  refine AW.ifP rfl h0 (fun h0 => ?_) (fun h0 => ?_)
  ·refine AW.seq (AW.reg hn hfx rfl ?_)
   refine .cons rfl (r_buildSlice [] (e := ty38) (mc := 1) rfl rfl rfl ok31 rfl rfl rfl) <| .cons rfl (SR.lower 0 (r_assign [] (.inl rfl) rfl rfl)) <| .cons rfl (r_copy (.inr rfl) rfl rfl) <| .nil ?_
   refine AW.sub [(2, _), (3, _)] ⟨rfl, rfl, trivial⟩ ?_
   refine AW.ret ?_
   obtain rfl := Option.some.inj h0
   exact ⟨_, .tmp rfl rfl (.tmp rfl rfl .nil), .inl ⟨rfl, rfl⟩, trivial⟩
  ·refine AW.skip ?_
   refine AW.seq (AW.reg hn hfx rfl ?_)
   refine .cons rfl (r_copy (.inl rfl) rfl rfl) <| .cons rfl (r_copy (.inr rfl) rfl rfl) <| .cons rfl (r_copy (.inr rfl) rfl rfl) <| .nil ?_
   refine AW.sub [(2, _), (3, _)] ⟨rfl, rfl, trivial⟩ ?_
   refine AW.ret ?_
   obtain rfl := Option.some.inj h0
   exact ⟨_, .tmp rfl rfl (.tmp rfl rfl .nil), .inl ⟨rfl, rfl⟩, trivial⟩

theorem W16  {a : (Int × ((List (Int × ((List Int) × Unit))) × Unit))} {r : ((List (List Int)) × Bool)} (h0 : spec_Automorphisms a = some r) : Meets Try.prog 16 [⟨ty26, 0, a⟩] [⟨ty31, 0, r.1⟩, ⟨.bool, 0, r.2⟩] [⟨ty26, 0, a⟩] := by
 refine Meets.of_body (fn := Try.f16) Try.func16 rfl rfl rfl fun c hn hfx => ?_
 unfold spec_Automorphisms at h0
 refine AW.seq (AW.reg hn hfx rfl ?_)
 refine .cons rfl (r_box [] rfl rfl rfl) <| .cons rfl (r_nilS (m := 2) (.inr rfl) ok31) <| .cons rfl (r_copy (.inr rfl) rfl rfl) <| .nil ?_
 refine AW.sub [(1, _)] ⟨rfl, trivial⟩ ?_
 refine AW.seq ?_
 refine AW.seq (AW.reg hn hfx rfl ?_)
 refine .cons rfl (r_load rfl rfl rfl rfl ok26 rfl) ?_
 obtain ⟨x1, hx1, h0⟩ := bindE h0
 refine .cons rfl (r_call rfl rfl rfl Try.func25 rfl rfl (W25 hx1) rfl) <| .cons rfl (r_not rfl rfl rfl) <| .nil ?_
 refine AW.sub [(1, _), (6, _)] ⟨rfl, rfl, trivial⟩ ?_
 refine AW.ifP rfl h0 (fun h0 => ?_) (fun h0 => ?_)
 ·refine AW.seq (AW.reg hn hfx rfl ?_)
  refine .cons rfl (r_buildSlice [] (e := ty38) (mc := 1) rfl rfl rfl ok31 rfl rfl rfl) <| .cons rfl (SR.lower 0 (r_assign [] (.inl rfl) rfl rfl)) <| .cons rfl (r_copy (.inr rfl) rfl rfl) <| .nil ?_
  refine AW.sub [(2, _), (3, _)] ⟨rfl, rfl, trivial⟩ ?_
  refine AW.ret ?_
  obtain rfl := Option.some.inj h0
  exact ⟨_, .tmp rfl rfl (.tmp rfl rfl .nil), .inl ⟨rfl, rfl⟩, trivial⟩
 ·refine AW.skip ?_
  refine AW.seq (AW.reg hn hfx rfl ?_)
  refine .cons rfl (r_load rfl rfl rfl rfl ok26 rfl) ?_
  obtain ⟨x2, hx2, h0⟩ := bindE h0
  refine .cons rfl (r_callG none rfl rfl Try.func47 rfl rfl (W47 hx2) ⟨rfl, trivial⟩ rfl) <| .cons rfl (r_extract_copy rfl rfl rfl rfl) <| .cons rfl (r_extract_copy rfl rfl rfl rfl) ?_
  refine RT.sub [(10, _), (11, _)] ⟨rfl, rfl, trivial⟩ ?_
  refine .cons rfl (r_copy (.inr rfl) rfl rfl) <| .cons rfl (r_copy (.inr rfl) rfl rfl) <| .nil ?_
  refine AW.sub [(2, _), (3, _)] ⟨rfl, rfl, trivial⟩ ?_
  refine AW.ret ?_
  obtain rfl := Option.some.inj h0
  exact ⟨_, .tmp rfl rfl (.tmp rfl rfl .nil), .inl ⟨rfl, rfl⟩, trivial⟩

theorem W17  {tables : (List (List Int))} {t : (List Int)} {r : Int} (h0 : laws_rPlace tables t = some r) : Meets Try.prog 17 [⟨ty31, 0, tables⟩, ⟨ty38, 0, t⟩] [⟨tInt, 0, r⟩] [⟨ty31, 0, tables⟩, ⟨ty38, 0, t⟩] := by
 refine Meets.of_body (fn := Try.f17) Try.func17 rfl rfl rfl fun c hn hfx => ?_
 unfold laws_rPlace at h0
 refine AW.seq (AW.reg hn hfx rfl ?_)
 refine .cons rfl (r_copy (.inr rfl) rfl rfl) <| .nil ?_
 refine AW.sub [(0, _), (1, _)] ⟨rfl, rfl, trivial⟩ ?_
 refine AW.seq ?_
 refine AW.seq (AW.reg hn hfx rfl ?_)
 refine .cons rfl (r_copy (.inr rfl) rfl rfl) <| .nil ?_
 refine AW.sub [(0, _), (1, _), (5, _)] ⟨rfl, rfl, rfl, trivial⟩ ?_
 obtain ⟨z9, h1, h0⟩ := bindE h0
 refine AW.joinX z9 [] trivial (fun s8 => []) ?_ ?_
 ·refine AW.block ?_
  refine AW.loopP h1 [(0, _), (1, _)] ⟨rfl, rfl, trivial⟩ (fun s13 => [(5, .val tInt 0 s13)]) ⟨rfl, rfl, rfl, trivial⟩ fun s13 z16 h2 => ?_
  refine AW.seq ?_
  refine AW.seq (AW.reg hn hfx rfl ?_)
  refine .cons rfl (r_copy (.inl rfl) rfl rfl) <| .cons rfl (r_copy (.inl rfl) rfl rfl) <| .cons rfl (r_len rfl rfl ok31 rfl) <| .cons rfl (r_cmp rfl rfl rfl rfl rfl) <| .nil ?_
  refine AW.sub [(0, _), (1, _), (5, _), (9, _)] ⟨rfl, rfl, rfl, rfl, trivial⟩ ?_
  refine AW.ifP rfl h2 (fun h2 => ?_) (fun h2 => ?_)
  ·refine AW.skip ?_
   refine AW.seq (AW.block ?_)
   refine AW.seq (AW.reg hn hfx rfl ?_)
   refine .cons rfl (r_copy (.inl rfl) rfl rfl) <| .cons rfl (r_copy (.inl rfl) rfl rfl) ?_
   obtain ⟨x14, hx14, h2⟩ := bindE h2
   refine .cons rfl (r_index_shared rfl rfl rfl ok31 (idx_nn hx14) (idx_get hx14)) <| .cons rfl (r_load_shared rfl rfl ok38) ?_
   refine RT.sub [(0, _), (1, _), (5, _), (15, _)] ⟨rfl, rfl, rfl, rfl, trivial⟩ ?_
   refine .cons rfl (r_copy (.inl rfl) rfl rfl) ?_
   obtain ⟨x15, hx15, h2⟩ := bindE h2
   refine .cons rfl (r_call rfl rfl rfl Try.func43 rfl rfl (W43 hx15) rfl) <| .nil ?_
   refine AW.sub [(0, _), (1, _), (5, _), (17, _)] ⟨rfl, rfl, rfl, rfl, trivial⟩ ?_
   refine AW.ifP rfl h2 (fun h2 => ?_) (fun h2 => ?_)
   ·refine AW.seq (AW.reg hn hfx rfl ?_)
    refine .cons rfl (r_copy (.inl rfl) rfl rfl) <| .cons rfl (r_copy (.inr rfl) rfl rfl) <| .nil ?_
    refine AW.sub [(4, _)] ⟨rfl, trivial⟩ ?_
    refine AW.ret ?_
    refine ⟨_, (Option.some.inj h2).symm, fun hz => ?_⟩
    subst hz
    obtain rfl := Option.some.inj h0
    exact ⟨_, .tmp rfl rfl .nil, .inl ⟨rfl, rfl⟩, .inl ⟨rfl, rfl⟩, trivial⟩
   ·refine AW.skip ?_
    refine AW.reg hn hfx rfl ?_
    refine .cons rfl (r_copy (.inl rfl) rfl rfl) <| .cons rfl (r_arith rfl rfl rfl rfl rfl) <| .cons rfl (r_copy (.inr rfl) rfl rfl) <| .nil ?_
    exact ⟨_, (Option.some.inj h2).symm, ⟨rfl, rfl, rfl, trivial⟩⟩
  ·refine AW.exit ?_
   refine ⟨_, (Option.some.inj h2).symm, fun hz => ?_⟩
   subst hz
   exact ⟨_, rfl, trivial⟩
 ·rintro s8 rfl l1 hl1
  refine AW.weaken hl1.sub ?_
  refine AW.seq (AW.reg hn hfx rfl ?_)
  refine .cons rfl (r_copy (.inr rfl) rfl rfl) <| .nil ?_
  refine AW.sub [(4, _)] ⟨rfl, trivial⟩ ?_
  refine AW.ret ?_
  obtain rfl := Option.some.inj h0
  exact ⟨_, .tmp rfl rfl .nil, .inl ⟨rfl, rfl⟩, .inl ⟨rfl, rfl⟩, trivial⟩

theorem W18  {a : (Int × ((List (Int × ((List Int) × Unit))) × Unit))} {r : ((Int × ((List (Int × ((List Int) × Unit))) × Unit)) × Bool)} (h0 : impl_CanonicalForm a = some r) : Meets Try.prog 18 [⟨ty26, 0, a⟩] [⟨ty26, 2, r.1⟩, ⟨.bool, 0, r.2⟩] [⟨ty26, 0, a⟩] := by
 refine Meets.of_body (fn := Try.f18) Try.func18 rfl rfl rfl fun c hn hfx => ?_
 unfold impl_CanonicalForm at h0
 refine AW.seq (AW.reg hn hfx rfl ?_)
 refine .cons rfl (r_box [] rfl rfl rfl) <| .cons rfl (r_alloc rfl ok26 rfl) <| .cons rfl (r_copy (.inr rfl) rfl rfl) <| .nil ?_
 refine AW.sub [(1, _), (2, _)] ⟨rfl, rfl, trivial⟩ ?_
 refine AW.seq ?_
 refine AW.seq (AW.reg hn hfx rfl ?_)
 refine .cons rfl (r_load rfl rfl rfl rfl ok26 rfl) ?_
 obtain ⟨x1, hx1, h0⟩ := bindE h0
 refine .cons rfl (r_call rfl rfl rfl Try.func29 rfl rfl (W29 hx1) rfl) <| .cons rfl (r_not rfl rfl rfl) <| .nil ?_
 refine AW.sub [(1, _), (2, _), (8, _)] ⟨rfl, rfl, rfl, trivial⟩ ?_
 refine AW.ifP rfl h0 (fun h0 => ?_) (fun h0 => ?_)
 ·refine AW.seq (AW.reg hn hfx rfl ?_)
  refine .cons rfl (r_build [] rfl rfl rfl ok26 ⟨_, _, rfl⟩ rfl rfl (mc := 2)) <| .cons rfl (r_store [] rfl rfl rfl rfl rfl rfl rfl rfl ok26 rfl rfl rfl rfl) <| .cons rfl (r_copy (.inr rfl) rfl rfl) <| .nil ?_
  refine AW.sub [(2, _), (3, _)] ⟨rfl, rfl, trivial⟩ ?_
  refine AW.ret ?_
  obtain rfl := Option.some.inj h0
  exact ⟨_, .cell rfl ok26 (.tmp rfl rfl .nil), .inl ⟨rfl, rfl⟩, trivial⟩
 ·refine AW.skip ?_
  refine AW.seq (AW.reg hn hfx rfl ?_)
  refine .cons rfl (r_load rfl rfl rfl rfl ok26 rfl) ?_
  obtain ⟨x2, hx2, h0⟩ := bindE h0
  refine .cons rfl (r_call rfl rfl rfl Try.func30 rfl rfl (W30 hx2) rfl) <| .cons rfl (r_moveTup (.inl rfl) rfl) <| .cons rfl (r_extract rfl rfl rfl) ?_
  refine RT.sub [(2, _), (10, _), (13, _)] ⟨rfl, rfl, rfl, trivial⟩ ?_
  refine .cons rfl (r_extract rfl rfl rfl) <| .cons rfl (r_alloc rfl ok26 rfl) <| .cons rfl (r_store [] rfl rfl rfl rfl rfl rfl rfl rfl ok26 rfl rfl rfl rfl) <| .cons rfl (r_assign [] (.inl rfl) rfl rfl) <| .nil ?_
  refine AW.sub [(2, _), (4, _)] ⟨rfl, rfl, trivial⟩ ?_
  refine AW.seq (AW.reg hn hfx rfl ?_)
  refine .cons rfl (r_load_ref rfl rfl rfl rfl ok26) <| .cons rfl (r_store [15] rfl rfl rfl rfl rfl rfl rfl rfl ok26 rfl rfl rfl rfl) <| .cons rfl (r_copy (.inr rfl) rfl rfl) <| .nil ?_
  refine AW.sub [(2, _), (3, _)] ⟨rfl, rfl, trivial⟩ ?_
  refine AW.ret ?_
  obtain rfl := Option.some.inj h0
  exact ⟨_, .cell rfl ok26 (.tmp rfl rfl .nil), .inl ⟨rfl, rfl⟩, trivial⟩

theorem W19  {a : (Int × ((List (Int × ((List Int) × Unit))) × Unit))} {r : ((List Int) × Bool)} (h0 : impl_CanonicalNames a = some r) : Meets Try.prog 19 [⟨ty26, 0, a⟩] [⟨ty38, 1, r.1⟩, ⟨.bool, 0, r.2⟩] [⟨ty26, 0, a⟩] := by
 refine Meets.of_body (fn := Try.f19) Try.func19 rfl rfl rfl fun c hn hfx => ?_
 unfold impl_CanonicalNames at h0
 refine AW.seq (AW.reg hn hfx rfl ?_)
 refine .cons rfl (r_box [] rfl rfl rfl) <| .cons rfl (r_nilS (m := 1) (.inr rfl) ok38) <| .cons rfl (r_copy (.inr rfl) rfl rfl) <| .nil ?_
 refine AW.sub [(1, _)] ⟨rfl, trivial⟩ ?_
 refine AW.seq ?_
 refine AW.seq (AW.reg hn hfx rfl ?_)
 refine .cons rfl (r_load rfl rfl rfl rfl ok26 rfl) ?_
 obtain ⟨x1, hx1, h0⟩ := bindE h0
 refine .cons rfl (r_call rfl rfl rfl Try.func29 rfl rfl (W29 hx1) rfl) <| .cons rfl (r_not rfl rfl rfl) <| .nil ?_
 refine AW.sub [(1, _), (8, _)] ⟨rfl, rfl, trivial⟩ ?_
 refine AW.ifP rfl h0 (fun h0 => ?_) (fun h0 => ?_)
 ·refine AW.seq (AW.reg hn hfx rfl ?_)
  refine .cons rfl (r_buildSlice [] (e := tInt) (mc := 0) rfl rfl rfl ok38 rfl rfl rfl) <| .cons rfl (r_assign [] (.inl rfl) rfl rfl) <| .cons rfl (r_copy (.inr rfl) rfl rfl) <| .nil ?_
  refine AW.sub [(2, _), (3, _)] ⟨rfl, rfl, trivial⟩ ?_
  refine AW.ret ?_
  obtain rfl := Option.some.inj h0
  exact ⟨_, .tmp rfl rfl (.tmp rfl rfl .nil), .inl ⟨rfl, rfl⟩, trivial⟩
 ·refine AW.skip ?_
  refine AW.seq (AW.reg hn hfx rfl ?_)
  refine .cons rfl (r_load rfl rfl rfl rfl ok26 rfl) ?_
  obtain ⟨x2, hx2, h0⟩ := bindE h0
  refine .cons rfl (r_call rfl rfl rfl Try.func30 rfl rfl (W30 hx2) rfl) <| .cons rfl (r_moveTup (.inl rfl) rfl) <| .cons rfl (r_extract rfl rfl rfl) ?_
  refine RT.sub [(10, _), (13, _)] ⟨rfl, rfl, trivial⟩ ?_
  refine .cons rfl (r_extract rfl rfl rfl) <| .cons rfl (r_alloc rfl ok26 rfl) <| .cons rfl (r_store [] rfl rfl rfl rfl rfl rfl rfl rfl ok26 rfl rfl rfl rfl) <| .cons rfl (r_assign [] (.inl rfl) rfl rfl) <| .nil ?_
  refine AW.sub [(5, _)] ⟨rfl, trivial⟩ ?_
  refine AW.seq (AW.reg hn hfx rfl ?_)
  refine .cons rfl (r_alias rfl rfl) <| .cons rfl (r_assign [15] (.inl rfl) rfl rfl) <| .cons rfl (r_copy (.inr rfl) rfl rfl) <| .nil ?_
  refine AW.sub [(2, _), (3, _)] ⟨rfl, rfl, trivial⟩ ?_
  refine AW.ret ?_
  obtain rfl := Option.some.inj h0
  exact ⟨_, .tmp rfl rfl (.tmp rfl rfl .nil), .inl ⟨rfl, rfl⟩, trivial⟩

theorem W48  {list : (List Int)} {n : Int} {r : Bool} (h0 : impl_isOrder list n = some r) : Meets Try.prog 48 [⟨ty38, 0, list⟩, ⟨tInt, 0, n⟩] [⟨.bool, 0, r⟩] [⟨ty38, 0, list⟩, ⟨tInt, 0, n⟩] := by
 refine Meets.of_body (fn := Try.f48) Try.func48 rfl rfl rfl fun c hn hfx => ?_
 unfold impl_isOrder at h0
 refine AW.seq (AW.reg hn hfx rfl ?_)
 refine .cons rfl (r_copy (.inr rfl) rfl rfl) <| .nil ?_
 refine AW.sub [(0, _), (1, _)] ⟨rfl, rfl, trivial⟩ ?_
 refine AW.seq ?_
 obtain ⟨z3, h1, h0⟩ := bindE h0
 refine AW.seq (AW.joinJ [(0, _), (1, _)] ⟨rfl, rfl, trivial⟩ [(17, .val .bool 0 z3)] ?_ ?_)
 ·refine AW.reg hn hfx rfl ?_
  refine .cons rfl (r_copy (.inl rfl) rfl rfl) <| .cons rfl (r_len rfl rfl ok38 rfl) <| .cons rfl (r_copy (.inl rfl) rfl rfl) <| .cons rfl (r_cmp rfl rfl rfl rfl rfl) ?_
  refine RT.sub [(0, _), (1, _), (11, _)] ⟨rfl, rfl, rfl, trivial⟩ ?_
  refine .ifP (.inl rfl) rfl rfl h1 (fun h1 => ?_) (fun h1 => ?_)
  ·refine .pass (.inl ⟨_, _, _, rfl, rfl, rfl⟩) <| .pass (.inl ⟨_, _, _, rfl, rfl, rfl⟩) <| .pass (.inl ⟨_, _, _, rfl, rfl, rfl⟩) ?_
   refine RT.sub [(0, _), (1, _), (12, _), (15, _)] ⟨rfl, rfl, rfl, rfl, trivial⟩ ?_
   refine .pass (.inl ⟨_, _, _, rfl, rfl, rfl⟩) <| .cons rfl (r_pick_true rfl rfl rfl rfl) <| .nil ?_
   obtain rfl := Option.some.inj h1
   exact ⟨rfl, rfl, rfl, trivial⟩
  ·refine .cons (.inl ⟨_, _, _, rfl, rfl, rfl⟩) (r_copy (.inl rfl) rfl rfl) <| .cons (.inl ⟨_, _, _, rfl, rfl, rfl⟩) (r_copy (.inl rfl) rfl rfl) ?_
   obtain ⟨x4, hx4, h1⟩ := bindE h1
   refine .cons (.inl ⟨_, _, _, rfl, rfl, rfl⟩) (r_call rfl rfl rfl Try.func76 rfl rfl (W76 hx4) rfl) ?_
   refine RT.sub [(0, _), (1, _), (12, _), (15, _)] ⟨rfl, rfl, rfl, rfl, trivial⟩ ?_
   refine .cons (.inl ⟨_, _, _, rfl, rfl, rfl⟩) (r_not rfl rfl rfl) <| .cons rfl (r_pick_false rfl rfl rfl rfl) <| .nil ?_
   obtain rfl := Option.some.inj h1
   exact ⟨rfl, rfl, rfl, trivial⟩
 ·intro l1 hl1
  refine AW.weaken hl1.sub ?_
  refine AW.ifP rfl h0 (fun h0 => ?_) (fun h0 => ?_)
  ·refine AW.seq (AW.reg hn hfx rfl ?_)
   refine .cons rfl (r_copy (.inr rfl) rfl rfl) <| .nil ?_
   refine AW.sub [(4, _)] ⟨rfl, trivial⟩ ?_
   refine AW.ret ?_
   obtain rfl := Option.some.inj h0
   exact ⟨_, .tmp rfl rfl .nil, .inl ⟨rfl, rfl⟩, .inl ⟨rfl, rfl⟩, trivial⟩
  ·refine AW.skip ?_
   refine AW.seq (AW.reg hn hfx rfl ?_)
   refine .cons rfl (r_copy (.inl rfl) rfl rfl) ?_
   obtain ⟨x6, hx6, h0⟩ := bindE h0
   refine .cons rfl (r_mkS rfl rfl rfl ok74 rfl hx6) <| .cons rfl (r_assign [] (.inl rfl) rfl rfl) <| .nil ?_
   refine AW.sub [(0, _), (5, _)] ⟨rfl, rfl, trivial⟩ ?_
   refine AW.seq ?_
   refine AW.seq (AW.reg hn hfx rfl ?_)
   refine .cons rfl (r_copy (.inl rfl) rfl rfl) <| .cons rfl (r_len rfl rfl ok38 rfl) <| .cons rfl (r_copy (.inl rfl) rfl rfl) <| .nil ?_
   refine AW.sub [(5, _), (20, _), (21, _), (22, _)] ⟨rfl, rfl, rfl, rfl, trivial⟩ ?_
   obtain ⟨z17, h1, h0⟩ := bindE h0
   refine AW.joinX z17 [] trivial (fun s16 => []) ?_ ?_
   ·refine AW.block ?_
    refine AW.loopP h1 [(20, _), (21, _)] ⟨rfl, rfl, trivial⟩ (fun s22 => [(5, .val ty74 1 s22.1), (22, .val tInt 0 s22.2)]) ⟨rfl, rfl, rfl, rfl, trivial⟩ fun s22 z26 h2 => ?_
    refine AW.seq (AW.reg hn hfx rfl ?_)
    refine .cons rfl (r_cmp rfl rfl rfl rfl rfl) <| .nil ?_
    refine AW.sub [(5, _), (20, _), (21, _), (22, _), (23, _)] ⟨rfl, rfl, rfl, rfl, rfl, trivial⟩ ?_
    refine AW.seq (AW.ifP rfl h2 (fun h2 => ?_) (fun h2 => ?_))
    ·refine AW.skip ?_
     refine AW.seq (AW.block ?_)
     refine AW.seq (AW.reg hn hfx rfl ?_)
     obtain ⟨x23, hx23, h2⟩ := bindE h2
     refine .cons rfl (r_index_shared rfl rfl rfl ok38 (idx_nn hx23) (idx_get hx23)) <| .cons rfl (r_load_shared rfl rfl ok3) <| .cons rfl (r_copy (.inr rfl) rfl rfl) <| .nil ?_
     refine AW.sub [(5, _), (7, _), (20, _), (21, _), (22, _)] ⟨rfl, rfl, rfl, rfl, rfl, trivial⟩ ?_
     refine AW.seq ?_
     refine AW.seq (AW.reg hn hfx rfl ?_)
     refine .cons rfl (r_alias rfl rfl) <| .cons rfl (r_copy (.inl rfl) rfl rfl) ?_
     obtain ⟨x24, hx24, h2⟩ := bindE h2
     refine .cons rfl (r_index_own rfl rfl rfl rfl rfl ok74 (idx_nn hx24) (idx_lt hx24)) <| .cons rfl (r_load rfl rfl rfl (sub_app rfl (sub_e (idx_get hx24))) ok4 rfl) <| .nil ?_
     refine AW.sub [(5, _), (7, _), (20, _), (21, _), (22, _), (29, _)] ⟨rfl, rfl, rfl, rfl, rfl, rfl, trivial⟩ ?_
     refine AW.ifP rfl h2 (fun h2 => ?_) (fun h2 => ?_)
     ·refine AW.seq (AW.reg hn hfx rfl ?_)
      refine .cons rfl (r_copy (.inr rfl) rfl rfl) <| .nil ?_
      refine AW.sub [(4, _)] ⟨rfl, trivial⟩ ?_
      refine AW.ret ?_
      refine ⟨_, (Option.some.inj h2).symm, fun hz => ?_⟩
      subst hz
      obtain rfl := Option.some.inj h0
      exact ⟨_, .tmp rfl rfl .nil, .inl ⟨rfl, rfl⟩, .inl ⟨rfl, rfl⟩, trivial⟩
     ·refine AW.skip ?_
      refine AW.reg hn hfx rfl ?_
      refine .cons rfl (r_alias rfl rfl) <| .cons rfl (r_copy (.inl rfl) rfl rfl) ?_
      obtain ⟨x25, hx25, h2⟩ := bindE h2
      refine .cons rfl (r_index_own rfl rfl rfl rfl rfl ok74 (idx_nn hx25) (idx_lt hx25)) <| .cons rfl (r_store [] rfl rfl rfl rfl rfl rfl rfl (sub_app rfl (sub_e (idx_get hx25))) ok4 rfl rfl rfl (repl_app rfl (repl_e (idx_get hx25)) rfl)) <| .nil ?_
      refine AW.sub [(5, _), (20, _), (21, _), (22, _)] ⟨rfl, rfl, rfl, rfl, trivial⟩ ?_
      refine AW.reg hn hfx rfl ?_
      refine .cons rfl (r_arith rfl rfl rfl rfl rfl) <| .cons rfl (r_copy (.inl rfl) rfl rfl) <| .nil ?_
      exact ⟨_, (Option.some.inj h2).symm, ⟨rfl, rfl, rfl, rfl, trivial⟩⟩
    ·refine AW.exit ?_
     refine ⟨_, (Option.some.inj h2).symm, fun hz => ?_⟩
     subst hz
     exact ⟨_, rfl, trivial⟩
   ·rintro s16 rfl l1 hl1
    refine AW.weaken hl1.sub ?_
    refine AW.seq (AW.reg hn hfx rfl ?_)
    refine .cons rfl (r_copy (.inr rfl) rfl rfl) <| .nil ?_
    refine AW.sub [(4, _)] ⟨rfl, trivial⟩ ?_
    refine AW.ret ?_
    obtain rfl := Option.some.inj h0
    exact ⟨_, .tmp rfl rfl .nil, .inl ⟨rfl, rfl⟩, .inl ⟨rfl, rfl⟩, trivial⟩

end Go.Proofs.Ytoaajjhcdbbfdaa
namespace Go.Proofs.Ytoaajjhcdbbfdaa
open Go.Abs Go.Pure
-- theorem hmix : Try.prog.follows .mixedOrders = true := by kernel_rfl
theorem W20  {a : (Int × ((List (Int × ((List Int) × Unit))) × Unit))} {names : (List Int)} {r : ((Int × ((List (Int × ((List Int) × Unit))) × Unit)) × Bool)} (h0 : impl_RenameElements a names = some r) : Meets Try.prog 20 [⟨ty26, 0, a⟩, ⟨ty38, 0, names⟩] [⟨ty26, 2, r.1⟩, ⟨.bool, 0, r.2⟩] [⟨ty26, 0, a⟩, ⟨ty38, 0, names⟩] := by
 refine Meets.of_body (fn := Try.f20) Try.func20 rfl rfl rfl fun c hn hfx => ?_
 unfold impl_RenameElements at h0
 refine AW.seq (AW.reg hn hfx rfl ?_)
 refine .cons rfl (r_box [] rfl rfl rfl) <| .cons rfl (r_alloc rfl ok26 rfl) <| .cons rfl (r_copy (.inr rfl) rfl rfl) <| .nil ?_
 refine AW.sub [(1, _), (2, _), (4, _)] ⟨rfl, rfl, rfl, trivial⟩ ?_
 refine AW.seq ?_
 obtain ⟨z4, h1, h0⟩ := bindE h0
 refine AW.seq (AW.joinJ [(1, _), (2, _), (4, _)] ⟨rfl, rfl, rfl, trivial⟩ [(15, .val .bool 0 z4)] ?_ ?_)
 ·refine AW.reg hn hfx rfl ?_
  refine .cons rfl (r_load rfl rfl rfl rfl ok26 rfl) ?_
  obtain ⟨x5, hx5, h1⟩ := bindE h1
  refine .cons rfl (r_call rfl rfl rfl Try.func35 rfl rfl (W35 hx5) rfl) <| .cons rfl (r_not rfl rfl rfl) ?_
  refine .ifP (.inl rfl) rfl rfl h1 (fun h1 => ?_) (fun h1 => ?_)
  ·refine RT.sub [(1, _), (2, _), (4, _), (9, _)] ⟨rfl, rfl, rfl, rfl, trivial⟩ ?_
   refine .pass (.inl ⟨_, _, _, rfl, rfl, rfl⟩) <| .pass (.inl ⟨_, _, _, rfl, rfl, rfl⟩) <| .pass (.inl ⟨_, _, _, rfl, rfl, rfl⟩) <| .pass (.inl ⟨_, _, _, rfl, rfl, rfl⟩) ?_
   refine RT.sub [(1, _), (2, _), (4, _), (9, _), (13, _)] ⟨rfl, rfl, rfl, rfl, rfl, trivial⟩ ?_
   refine .pass (.inl ⟨_, _, _, rfl, rfl, rfl⟩) <| .cons rfl (r_pick_true rfl rfl rfl rfl) <| .nil ?_
   obtain rfl := Option.some.inj h1
   exact ⟨rfl, rfl, rfl, rfl, trivial⟩
  ·refine RT.sub [(1, _), (2, _), (4, _), (9, _)] ⟨rfl, rfl, rfl, rfl, trivial⟩ ?_
   refine .cons (.inl ⟨_, _, _, rfl, rfl, rfl⟩) (r_copy (.inl rfl) rfl rfl) <| .cons (.inl ⟨_, _, _, rfl, rfl, rfl⟩) (r_field rfl rfl rfl rfl ok26 rfl rfl) <| .cons (.inl ⟨_, _, _, rfl, rfl, rfl⟩) (r_load rfl rfl rfl rfl ok3 rfl) ?_
   obtain ⟨x6, hx6, h1⟩ := bindE h1
   refine .cons (.inl ⟨_, _, _, rfl, rfl, rfl⟩) (r_call rfl rfl rfl Try.func48 rfl rfl (W48 hx6) rfl) ?_
   refine RT.sub [(1, _), (2, _), (4, _), (9, _), (13, _)] ⟨rfl, rfl, rfl, rfl, rfl, trivial⟩ ?_
   refine .cons (.inl ⟨_, _, _, rfl, rfl, rfl⟩) (r_not rfl rfl rfl) <| .cons rfl (r_pick_false rfl rfl rfl rfl) <| .nil ?_
   obtain rfl := Option.some.inj h1
   exact ⟨rfl, rfl, rfl, rfl, trivial⟩
 ·intro l1 hl1
  refine AW.weaken hl1.sub ?_
  refine AW.ifP rfl h0 (fun h0 => ?_) (fun h0 => ?_)
  ·refine AW.seq (AW.reg hn hfx rfl ?_)
   refine .cons rfl (r_build [] rfl rfl rfl ok26 ⟨_, _, rfl⟩ rfl rfl (mc := 2)) <| .cons rfl (r_store [] rfl rfl rfl rfl rfl rfl rfl rfl ok26 rfl rfl rfl rfl) <| .cons rfl (r_copy (.inr rfl) rfl rfl) <| .nil ?_
   refine AW.sub [(4, _), (5, _)] ⟨rfl, rfl, trivial⟩ ?_
   refine AW.ret ?_
   obtain rfl := Option.some.inj h0
   exact ⟨_, .cell rfl ok26 (.tmp rfl rfl .nil), .inl ⟨rfl, rfl⟩, .inl ⟨rfl, rfl⟩, trivial⟩
  ·refine AW.skip ?_
   refine AW.seq (AW.reg hn hfx rfl ?_)
   refine .cons rfl (r_load rfl rfl rfl rfl ok26 rfl) <| .cons rfl (r_copy (.inl rfl) rfl rfl) ?_
   obtain ⟨x8, hx8, h0⟩ := bindE h0
   refine .cons rfl (r_call rfl rfl rfl Try.func49 rfl rfl (W49 hx8) rfl) <| .cons rfl (r_store [] rfl rfl rfl rfl rfl rfl rfl rfl ok26 rfl rfl rfl rfl) ?_
   refine RT.sub [(4, _)] ⟨rfl, trivial⟩ ?_
   refine .cons rfl (r_copy (.inr rfl) rfl rfl) <| .nil ?_
   refine AW.sub [(4, _), (5, _)] ⟨rfl, rfl, trivial⟩ ?_
   refine AW.ret ?_
   obtain rfl := Option.some.inj h0
   exact ⟨_, .cell rfl ok26 (.tmp rfl rfl .nil), .inl ⟨rfl, rfl⟩, .inl ⟨rfl, rfl⟩, trivial⟩

theorem W21  {a : (Int × ((List (Int × ((List Int) × Unit))) × Unit))} {r : ((Int × ((List (Int × ((List Int) × Unit))) × Unit)) × Bool)} (h0 : spec_CanonicalForm a = some r) : Meets Try.prog 21 [⟨ty26, 0, a⟩] [⟨ty26, 2, r.1⟩, ⟨.bool, 0, r.2⟩] [⟨ty26, 0, a⟩] := by
 refine Meets.of_body (fn := Try.f21) Try.func21 rfl rfl rfl fun c hn hfx => ?_
 unfold spec_CanonicalForm at h0
 refine AW.seq (AW.reg hn hfx rfl ?_)
 refine .cons rfl (r_box [] rfl rfl rfl) <| .cons rfl (r_alloc rfl ok26 rfl) <| .cons rfl (r_copy (.inr rfl) rfl rfl) <| .nil ?_
 refine AW.sub [(1, _), (2, _)] ⟨rfl, rfl, trivial⟩ ?_
 refine AW.seq ?_
 refine AW.seq (AW.reg hn hfx rfl ?_)
 refine .cons rfl (r_load rfl rfl rfl rfl ok26 rfl) ?_
 obtain ⟨x1, hx1, h0⟩ := bindE h0
 refine .cons rfl (r_call rfl rfl rfl Try.func32 rfl rfl (W32 hx1) rfl) <| .cons rfl (r_not rfl rfl rfl) <| .nil ?_
 refine AW.sub [(1, _), (2, _), (6, _)] ⟨rfl, rfl, rfl, trivial⟩ ?_
 refine AW.ifP rfl h0 (fun h0 => ?_) (fun h0 => ?_)
 ·refine AW.seq (AW.reg hn hfx rfl ?_)
  refine .cons rfl (r_build [] rfl rfl rfl ok26 ⟨_, _, rfl⟩ rfl rfl (mc := 2)) <| .cons rfl (r_store [] rfl rfl rfl rfl rfl rfl rfl rfl ok26 rfl rfl rfl rfl) <| .cons rfl (r_copy (.inr rfl) rfl rfl) <| .nil ?_
  refine AW.sub [(2, _), (3, _)] ⟨rfl, rfl, trivial⟩ ?_
  refine AW.ret ?_
  obtain rfl := Option.some.inj h0
  exact ⟨_, .cell rfl ok26 (.tmp rfl rfl .nil), .inl ⟨rfl, rfl⟩, trivial⟩
 ·refine AW.skip ?_
  refine AW.seq (AW.reg hn hfx rfl ?_)
  refine .cons rfl (r_load rfl rfl rfl rfl ok26 rfl) ?_
  obtain ⟨x2, hx2, h0⟩ := bindE h0
  refine .cons rfl (r_call rfl rfl rfl Try.func34 rfl rfl (W34 hx2) rfl) <| .cons rfl (r_store [] rfl rfl rfl rfl rfl rfl rfl rfl ok26 rfl rfl rfl rfl) <| .cons rfl (r_copy (.inr rfl) rfl rfl) <| .nil ?_
  refine AW.sub [(2, _), (3, _)] ⟨rfl, rfl, trivial⟩ ?_
  refine AW.ret ?_
  obtain rfl := Option.some.inj h0
  exact ⟨_, .cell rfl ok26 (.tmp rfl rfl .nil), .inl ⟨rfl, rfl⟩, trivial⟩

theorem W80  {a : (Int × ((List Int) × Unit))} {b : (Int × ((List Int) × Unit))} {r : Bool} (h0 : laws_rOp a b = some r) : Meets Try.prog 80 [⟨ty72, 0, a⟩, ⟨ty72, 0, b⟩] [⟨.bool, 0, r⟩] [⟨ty72, 0, a⟩, ⟨ty72, 0, b⟩] := by
 refine Meets.of_body (fn := Try.f80) Try.func80 rfl rfl rfl fun c hn hfx => ?_
 unfold laws_rOp at h0
 refine AW.seq (AW.reg hn hfx rfl ?_)
 refine .cons rfl (r_box [] rfl rfl rfl) <| .cons rfl (r_box [] rfl rfl rfl) <| .cons rfl (r_copy (.inr rfl) rfl rfl) <| .nil ?_
 refine AW.sub [(2, _), (3, _)] ⟨rfl, rfl, trivial⟩ ?_
 obtain ⟨z3, h1, h0⟩ := bindE h0
 refine AW.seq (AW.joinJ [] trivial [(4, .val .bool 0 z3)] ?_ ?_)
 ·refine AW.reg hn hfx rfl ?_
  refine .cons rfl (r_field rfl rfl rfl rfl ok72 rfl rfl) <| .cons rfl (r_load rfl rfl rfl rfl ok3 rfl) <| .cons rfl (r_field rfl rfl rfl rfl ok72 rfl rfl) <| .cons rfl (r_load rfl rfl rfl rfl ok3 rfl) ?_
  refine RT.sub [(2, _), (3, _), (6, _), (8, _)] ⟨rfl, rfl, rfl, rfl, trivial⟩ ?_
  refine .cons rfl (r_cmp rfl rfl rfl rfl rfl) ?_
  refine .ifP (.inl rfl) rfl rfl h1 (fun h1 => ?_) (fun h1 => ?_)
  ·refine .cons (.inl ⟨_, _, _, rfl, rfl, rfl⟩) (r_field rfl rfl rfl rfl ok72 rfl rfl) <| .cons (.inl ⟨_, _, _, rfl, rfl, rfl⟩) (r_load rfl rfl rfl rfl ok38 rfl) ?_
   refine RT.sub [(3, _), (10, _), (12, _)] ⟨rfl, rfl, rfl, trivial⟩ ?_
   refine .cons (.inl ⟨_, _, _, rfl, rfl, rfl⟩) (r_field rfl rfl rfl rfl ok72 rfl rfl) <| .cons (.inl ⟨_, _, _, rfl, rfl, rfl⟩) (r_load rfl rfl rfl rfl ok38 rfl) ?_
   obtain ⟨x4, hx4, h1⟩ := bindE h1
   refine .cons (.inl ⟨_, _, _, rfl, rfl, rfl⟩) (r_call rfl rfl rfl Try.func43 rfl rfl (W43 hx4) rfl) <| .cons rfl (r_pick_true rfl rfl rfl rfl) ?_
   refine RT.sub [(16, _)] ⟨rfl, trivial⟩ ?_
   refine .cons rfl (r_copy (.inr rfl) rfl rfl) <| .nil ?_
   obtain rfl := Option.some.inj h1
   exact ⟨rfl, trivial⟩
  ·refine .pass (.inl ⟨_, _, _, rfl, rfl, rfl⟩) <| .pass (.inl ⟨_, _, _, rfl, rfl, rfl⟩) ?_
   refine RT.sub [(3, _), (10, _), (12, _)] ⟨rfl, rfl, rfl, trivial⟩ ?_
   refine .pass (.inl ⟨_, _, _, rfl, rfl, rfl⟩) <| .pass (.inl ⟨_, _, _, rfl, rfl, rfl⟩) <| .pass (.inl ⟨_, _, _, rfl, rfl, rfl⟩) <| .cons rfl (r_pick_false rfl rfl rfl rfl) ?_
   refine RT.sub [(16, _)] ⟨rfl, trivial⟩ ?_
   refine .cons rfl (r_copy (.inr rfl) rfl rfl) <| .nil ?_
   obtain rfl := Option.some.inj h1
   exact ⟨rfl, trivial⟩
 ·intro l1 hl1
  refine AW.weaken hl1.sub ?_
  refine AW.ret ?_
  obtain rfl := Option.some.inj h0
  exact ⟨_, .tmp rfl rfl .nil, .inl ⟨rfl, rfl⟩, .inl ⟨rfl, rfl⟩, trivial⟩

theorem W50  {a : (List (Int × ((List Int) × Unit)))} {b : (List (Int × ((List Int) × Unit)))} {r : Bool} (h0 : laws_rOps a b = some r) : Meets Try.prog 50 [⟨ty24, 0, a⟩, ⟨ty24, 0, b⟩] [⟨.bool, 0, r⟩] [⟨ty24, 0, a⟩, ⟨ty24, 0, b⟩] := by
 refine Meets.of_body (fn := Try.f50) Try.func50 rfl rfl rfl fun c hn hfx => ?_
 unfold laws_rOps at h0
 refine AW.seq (AW.reg hn hfx rfl ?_)
 refine .cons rfl (r_copy (.inr rfl) rfl rfl) <| .nil ?_
 refine AW.sub [(0, _), (1, _)] ⟨rfl, rfl, trivial⟩ ?_
 refine AW.seq ?_
 refine AW.seq (AW.reg hn hfx rfl ?_)
 refine .cons rfl (r_copy (.inl rfl) rfl rfl) <| .cons rfl (r_len rfl rfl ok24 rfl) <| .cons rfl (r_copy (.inl rfl) rfl rfl) <| .cons rfl (r_len rfl rfl ok24 rfl) ?_
 refine RT.sub [(0, _), (1, _), (7, _), (9, _)] ⟨rfl, rfl, rfl, rfl, trivial⟩ ?_
 refine .cons rfl (r_cmp rfl rfl rfl rfl rfl) <| .nil ?_
 refine AW.sub [(0, _), (1, _), (10, _)] ⟨rfl, rfl, rfl, trivial⟩ ?_
 refine AW.ifP rfl h0 (fun h0 => ?_) (fun h0 => ?_)
 ·refine AW.seq (AW.reg hn hfx rfl ?_)
  refine .cons rfl (r_copy (.inr rfl) rfl rfl) <| .nil ?_
  refine AW.sub [(4, _)] ⟨rfl, trivial⟩ ?_
  refine AW.ret ?_
  obtain rfl := Option.some.inj h0
  exact ⟨_, .tmp rfl rfl .nil, .inl ⟨rfl, rfl⟩, .inl ⟨rfl, rfl⟩, trivial⟩
 ·refine AW.skip ?_
  refine AW.seq ?_
  refine AW.seq (AW.reg hn hfx rfl ?_)
  refine .cons rfl (r_copy (.inr rfl) rfl rfl) <| .nil ?_
  refine AW.sub [(0, _), (1, _), (5, _)] ⟨rfl, rfl, rfl, trivial⟩ ?_
  obtain ⟨z11, h1, h0⟩ := bindE h0
  refine AW.joinX z11 [] trivial (fun s10 => []) ?_ ?_
  ·refine AW.block ?_
   refine AW.loopP h1 [(0, _), (1, _)] ⟨rfl, rfl, trivial⟩ (fun s16 => [(5, .val tInt 0 s16)]) ⟨rfl, rfl, rfl, trivial⟩ fun s16 z20 h2 => ?_
   refine AW.seq ?_
   refine AW.seq (AW.reg hn hfx rfl ?_)
   refine .cons rfl (r_copy (.inl rfl) rfl rfl) <| .cons rfl (r_copy (.inl rfl) rfl rfl) <| .cons rfl (r_len rfl rfl ok24 rfl) <| .cons rfl (r_cmp rfl rfl rfl rfl rfl) <| .nil ?_
   refine AW.sub [(0, _), (1, _), (5, _), (14, _)] ⟨rfl, rfl, rfl, rfl, trivial⟩ ?_
   refine AW.ifP rfl h2 (fun h2 => ?_) (fun h2 => ?_)
   ·refine AW.skip ?_
    refine AW.seq (AW.block ?_)
    refine AW.seq (AW.draw hmix hn hfx rfl rfl ?_)
    refine .cons rfl (r_copy (.inl rfl) rfl rfl) rfl rfl rfl <| .cons rfl (r_copy (.inl rfl) rfl rfl) rfl rfl rfl ?_
    obtain ⟨x17, hx17, h2⟩ := bindE h2
    refine .cons rfl (r_index_shared rfl rfl rfl ok24 (idx_nn hx17) (idx_get hx17)) rfl rfl rfl <| .cons rfl (r_load_shared rfl rfl ok72) rfl rfl rfl ?_
    refine DT.eq [(20, _), (19, _), (18, _), (17, _), (0, _), (1, _), (5, _), (14, _)] rfl ?_
    refine .cons rfl (r_copy (.inl rfl) rfl rfl) rfl rfl rfl <| .cons rfl (r_copy (.inl rfl) rfl rfl) rfl rfl rfl ?_
    obtain ⟨x18, hx18, h2⟩ := bindE h2
    refine .cons rfl (r_index_shared rfl rfl rfl ok24 (idx_nn hx18) (idx_get hx18)) rfl rfl rfl <| .cons rfl (r_load_shared rfl rfl ok72) rfl rfl rfl ?_
    refine DT.eq [(24, _), (23, _), (22, _), (21, _), (20, _), (19, _), (18, _), (17, _), (0, _), (1, _), (5, _), (14, _)] rfl ?_
    obtain ⟨x19, hx19, h2⟩ := bindE h2
    refine .cons rfl (r_call rfl rfl rfl Try.func80 rfl rfl (W80 hx19) rfl) rfl rfl rfl <| .cons rfl (r_not rfl rfl rfl) rfl rfl rfl <| .nil rfl ?_
    refine AW.sub [(0, _), (1, _), (5, _), (26, _)] ⟨rfl, rfl, rfl, rfl, trivial⟩ ?_
    refine AW.ifP rfl h2 (fun h2 => ?_) (fun h2 => ?_)
    ·refine AW.seq (AW.reg hn hfx rfl ?_)
     refine .cons rfl (r_copy (.inr rfl) rfl rfl) <| .nil ?_
     refine AW.sub [(4, _)] ⟨rfl, trivial⟩ ?_
     refine AW.ret ?_
     refine ⟨_, (Option.some.inj h2).symm, fun hz => ?_⟩
     subst hz
     obtain rfl := Option.some.inj h0
     exact ⟨_, .tmp rfl rfl .nil, .inl ⟨rfl, rfl⟩, .inl ⟨rfl, rfl⟩, trivial⟩
    ·refine AW.skip ?_
     refine AW.reg hn hfx rfl ?_
     refine .cons rfl (r_copy (.inl rfl) rfl rfl) <| .cons rfl (r_arith rfl rfl rfl rfl rfl) <| .cons rfl (r_copy (.inr rfl) rfl rfl) <| .nil ?_
     exact ⟨_, (Option.some.inj h2).symm, ⟨rfl, rfl, rfl, trivial⟩⟩
   ·refine AW.exit ?_
    refine ⟨_, (Option.some.inj h2).symm, fun hz => ?_⟩
    subst hz
    exact ⟨_, rfl, trivial⟩
  ·rintro s10 rfl l1 hl1
   refine AW.weaken hl1.sub ?_
   refine AW.seq (AW.reg hn hfx rfl ?_)
   refine .cons rfl (r_copy (.inr rfl) rfl rfl) <| .nil ?_
   refine AW.sub [(4, _)] ⟨rfl, trivial⟩ ?_
   refine AW.ret ?_
   obtain rfl := Option.some.inj h0
   exact ⟨_, .tmp rfl rfl .nil, .inl ⟨rfl, rfl⟩, .inl ⟨rfl, rfl⟩, trivial⟩

theorem W22  {a : (Int × ((List (Int × ((List Int) × Unit))) × Unit))} {b : (Int × ((List (Int × ((List Int) × Unit))) × Unit))} {r : Bool} (h0 : laws_rAlgebra a b = some r) : Meets Try.prog 22 [⟨ty26, 0, a⟩, ⟨ty26, 0, b⟩] [⟨.bool, 0, r⟩] [⟨ty26, 0, a⟩, ⟨ty26, 0, b⟩] := by
 refine Meets.of_body (fn := Try.f22) Try.func22 rfl rfl rfl fun c hn hfx => ?_
 unfold laws_rAlgebra at h0
 refine AW.seq (AW.reg hn hfx rfl ?_)
 refine .cons rfl (r_box [] rfl rfl rfl) <| .cons rfl (r_box [] rfl rfl rfl) <| .cons rfl (r_copy (.inr rfl) rfl rfl) <| .nil ?_
 refine AW.sub [(2, _), (3, _)] ⟨rfl, rfl, trivial⟩ ?_
 obtain ⟨z3, h1, h0⟩ := bindE h0
 refine AW.seq (AW.joinJ [] trivial [(4, .val .bool 0 z3)] ?_ ?_)
 ·refine AW.reg hn hfx rfl ?_
  refine .cons rfl (r_field rfl rfl rfl rfl ok26 rfl rfl) <| .cons rfl (r_load rfl rfl rfl rfl ok3 rfl) <| .cons rfl (r_field rfl rfl rfl rfl ok26 rfl rfl) <| .cons rfl (r_load rfl rfl rfl rfl ok3 rfl) ?_
  refine RT.sub [(2, _), (3, _), (6, _), (8, _)] ⟨rfl, rfl, rfl, rfl, trivial⟩ ?_
  refine .cons rfl (r_cmp rfl rfl rfl rfl rfl) ?_
  refine .ifP (.inl rfl) rfl rfl h1 (fun h1 => ?_) (fun h1 => ?_)
  ·refine .cons (.inl ⟨_, _, _, rfl, rfl, rfl⟩) (r_field rfl rfl rfl rfl ok26 rfl rfl) <| .cons (.inl ⟨_, _, _, rfl, rfl, rfl⟩) (r_load rfl rfl rfl rfl ok24 rfl) ?_
   refine RT.sub [(3, _), (10, _), (12, _)] ⟨rfl, rfl, rfl, trivial⟩ ?_
   refine .cons (.inl ⟨_, _, _, rfl, rfl, rfl⟩) (r_field rfl rfl rfl rfl ok26 rfl rfl) <| .cons (.inl ⟨_, _, _, rfl, rfl, rfl⟩) (r_load rfl rfl rfl rfl ok24 rfl) ?_
   obtain ⟨x4, hx4, h1⟩ := bindE h1
   refine .cons (.inl ⟨_, _, _, rfl, rfl, rfl⟩) (r_call rfl rfl rfl Try.func50 rfl rfl (W50 hx4) rfl) <| .cons rfl (r_pick_true rfl rfl rfl rfl) ?_
   refine RT.sub [(16, _)] ⟨rfl, trivial⟩ ?_
   refine .cons rfl (r_copy (.inr rfl) rfl rfl) <| .nil ?_
   obtain rfl := Option.some.inj h1
   exact ⟨rfl, trivial⟩
  ·refine .pass (.inl ⟨_, _, _, rfl, rfl, rfl⟩) <| .pass (.inl ⟨_, _, _, rfl, rfl, rfl⟩) ?_
   refine RT.sub [(3, _), (10, _), (12, _)] ⟨rfl, rfl, rfl, trivial⟩ ?_
   refine .pass (.inl ⟨_, _, _, rfl, rfl, rfl⟩) <| .pass (.inl ⟨_, _, _, rfl, rfl, rfl⟩) <| .pass (.inl ⟨_, _, _, rfl, rfl, rfl⟩) <| .cons rfl (r_pick_false rfl rfl rfl rfl) ?_
   refine RT.sub [(16, _)] ⟨rfl, trivial⟩ ?_
   refine .cons rfl (r_copy (.inr rfl) rfl rfl) <| .nil ?_
   obtain rfl := Option.some.inj h1
   exact ⟨rfl, trivial⟩
 ·intro l1 hl1
  refine AW.weaken hl1.sub ?_
  refine AW.ret ?_
  obtain rfl := Option.some.inj h0
  exact ⟨_, .tmp rfl rfl .nil, .inl ⟨rfl, rfl⟩, .inl ⟨rfl, rfl⟩, trivial⟩

end Go.Proofs.Ytoaajjhcdbbfdaa
namespace Go.Proofs.Ytoaajjhcdbbfdaa
open Go.Abs Go.Pure
-- theorem hmix : Try.prog.follows .mixedOrders = true := by kernel_rfl
theorem W3  {code : (List Int)} {r : Bool} (h0 : laws_FnCopies code = some r) : Meets Try.prog 3 [⟨ty22, 0, code⟩] [⟨.bool, 0, r⟩] [⟨ty22, 0, code⟩] := by
 refine Meets.of_body (fn := Try.f3) Try.func3 rfl rfl rfl fun c hn hfx => ?_
 unfold laws_FnCopies at h0
 refine AW.seq (AW.reg hn hfx rfl ?_)
 refine .cons rfl (r_copy (.inr rfl) rfl rfl) <| .nil ?_
 refine AW.sub [(0, _)] ⟨rfl, trivial⟩ ?_
 refine AW.seq ?_
 refine AW.seq (AW.reg hn hfx rfl ?_)
 refine .cons rfl (r_copy (.inl rfl) rfl rfl) ?_
 obtain ⟨x1, hx1, h0⟩ := bindE h0
 refine .cons rfl (r_call rfl rfl rfl Try.func4 rfl rfl (W4 hx1) rfl) <| .nil ?_
 refine AW.sub [(0, _), (39, _)] ⟨rfl, rfl, trivial⟩ ?_
 refine AW.ifP rfl h0 (fun h0 => ?_) (fun h0 => ?_)
 ·refine AW.seq (AW.reg hn hfx rfl ?_)
  refine .cons rfl (r_copy (.inr rfl) rfl rfl) <| .nil ?_
  refine AW.sub [(2, _)] ⟨rfl, trivial⟩ ?_
  refine AW.ret ?_
  obtain rfl := Option.some.inj h0
  exact ⟨_, .tmp rfl rfl .nil, .inl ⟨rfl, rfl⟩, trivial⟩
 ·refine AW.skip ?_
  refine AW.seq (AW.reg hn hfx rfl ?_)
  refine .cons rfl (r_copy (.inl rfl) rfl rfl) ?_
  obtain ⟨x2, hx2, h0⟩ := bindE h0
  refine .cons rfl (r_call rfl rfl rfl Try.func5 rfl rfl (W5 hx2) rfl) <| .cons rfl (r_moveTup (.inl rfl) rfl) <| .cons rfl (r_extract rfl rfl rfl) ?_
  refine RT.sub [(40, _), (43, _)] ⟨rfl, rfl, trivial⟩ ?_
  refine .cons rfl (r_extract rfl rfl rfl) <| .cons rfl (r_alloc rfl ok26 rfl) <| .cons rfl (r_alloc rfl ok26 rfl) <| .cons rfl (r_store [] rfl rfl rfl rfl rfl rfl rfl rfl ok26 rfl rfl rfl rfl) ?_
  refine RT.sub [(3, _), (4, _), (44, _)] ⟨rfl, rfl, rfl, trivial⟩ ?_
  refine .cons rfl (r_store [] rfl rfl rfl rfl rfl rfl rfl rfl ok26 rfl rfl rfl rfl) <| .nil ?_
  refine AW.sub [(3, _), (4, _)] ⟨rfl, rfl, trivial⟩ ?_
  refine AW.seq (AW.reg hn hfx rfl ?_)
  refine .cons rfl (r_load_ref rfl rfl rfl rfl ok26) <| .cons rfl (r_load_ref rfl rfl rfl rfl ok26) ?_
  obtain ⟨x3, hx3, h0⟩ := bindE h0
  refine .cons rfl (r_call rfl rfl rfl Try.func6 rfl rfl (W6 hx3) rfl) <| .cons rfl (r_moveTup (.inl rfl) rfl) ?_
  refine RT.sub [(3, _), (4, _), (45, _)] ⟨rfl, rfl, rfl, trivial⟩ ?_
  refine .cons rfl (r_extract_copy rfl rfl rfl rfl) <| .cons rfl (r_extract_copy rfl rfl rfl rfl) <| .cons rfl (r_copy (.inr rfl) rfl rfl) <| .cons rfl (r_copy (.inr rfl) rfl rfl) <| .nil ?_
  refine AW.sub [(3, _), (4, _), (5, _), (6, _)] ⟨rfl, rfl, rfl, rfl, trivial⟩ ?_
  refine AW.seq ?_
  refine AW.seq (AW.reg hn hfx rfl ?_)
  refine .cons rfl (r_load_ref rfl rfl rfl rfl ok26) <| .cons rfl (r_load_ref rfl rfl rfl rfl ok26) ?_
  obtain ⟨x4, hx4, h0⟩ := bindE h0
  refine .cons rfl (r_call rfl rfl rfl Try.func7 rfl rfl (W7 hx4) rfl) <| .cons rfl (r_moveTup (.inl rfl) rfl) ?_
  refine RT.sub [(3, _), (4, _), (5, _), (6, _), (51, _)] ⟨rfl, rfl, rfl, rfl, rfl, trivial⟩ ?_
  refine .cons rfl (r_extract_copy rfl rfl rfl rfl) <| .cons rfl (r_extract_copy rfl rfl rfl rfl) <| .cons rfl (r_copy (.inr rfl) rfl rfl) <| .cons rfl (r_copy (.inr rfl) rfl rfl) <| .nil ?_
  refine AW.sub [(3, _), (4, _), (5, _), (6, _), (7, _), (8, _)] ⟨rfl, rfl, rfl, rfl, rfl, rfl, trivial⟩ ?_
  obtain ⟨z6, h1, h0⟩ := bindE h0
  refine AW.seq (AW.joinJ [(3, _), (4, _), (5, _), (6, _)] ⟨rfl, rfl, rfl, rfl, trivial⟩ [(64, .val .bool 0 z6)] ?_ ?_)
  ·refine AW.reg hn hfx rfl ?_
   refine .cons rfl (r_copy (.inl rfl) rfl rfl) <| .cons rfl (r_copy (.inl rfl) rfl rfl) <| .cons rfl (r_cmpB rfl rfl rfl ok4 rfl rfl) ?_
   refine .ifP (.inl rfl) rfl rfl h1 (fun h1 => ?_) (fun h1 => ?_)
   ·refine RT.sub [(3, _), (4, _), (5, _), (6, _), (8, _), (60, _)] ⟨rfl, rfl, rfl, rfl, rfl, rfl, trivial⟩ ?_
    refine .pass (.inl ⟨_, _, _, rfl, rfl, rfl⟩) <| .pass (.inl ⟨_, _, _, rfl, rfl, rfl⟩) <| .pass (.inl ⟨_, _, _, rfl, rfl, rfl⟩) <| .cons rfl (r_pick_true rfl rfl rfl rfl) <| .nil ?_
    obtain rfl := Option.some.inj h1
    exact ⟨rfl, rfl, rfl, rfl, rfl, trivial⟩
   ·refine RT.sub [(3, _), (4, _), (5, _), (6, _), (8, _), (60, _)] ⟨rfl, rfl, rfl, rfl, rfl, rfl, trivial⟩ ?_
    refine .cons (.inl ⟨_, _, _, rfl, rfl, rfl⟩) (r_copy (.inl rfl) rfl rfl) <| .cons (.inl ⟨_, _, _, rfl, rfl, rfl⟩) (r_copy (.inl rfl) rfl rfl) <| .cons (.inl ⟨_, _, _, rfl, rfl, rfl⟩) (r_cmpB rfl rfl rfl ok4 rfl rfl) <| .cons rfl (r_pick_false rfl rfl rfl rfl) <| .nil ?_
    obtain rfl := Option.some.inj h1
    exact ⟨rfl, rfl, rfl, rfl, rfl, trivial⟩
  ·intro l1 hl1
   refine AW.weaken hl1.sub ?_
   refine AW.ifP rfl h0 (fun h0 => ?_) (fun h0 => ?_)
   ·refine AW.seq (AW.reg hn hfx rfl ?_)
    refine .cons rfl (r_copy (.inr rfl) rfl rfl) <| .nil ?_
    refine AW.sub [(2, _)] ⟨rfl, trivial⟩ ?_
    refine AW.ret ?_
    obtain rfl := Option.some.inj h0
    exact ⟨_, .tmp rfl rfl .nil, .inl ⟨rfl, rfl⟩, trivial⟩
   ·refine AW.skip ?_
    refine AW.seq ?_
    refine AW.sub [(3, _), (4, _), (5, _), (6, _)] ⟨rfl, rfl, rfl, rfl, trivial⟩ ?_
    obtain ⟨z9, h1, h0⟩ := bindE h0
    refine AW.seq (AW.joinJ [(3, _), (4, _), (5, _)] ⟨rfl, rfl, rfl, trivial⟩ [(72, .val .bool 0 z9)] ?_ ?_)
    ·refine AW.reg hn hfx rfl ?_
     refine .cons rfl (r_copy (.inl rfl) rfl rfl) ?_
     refine .ifP (.inl rfl) rfl rfl h1 (fun h1 => ?_) (fun h1 => ?_)
     ·refine .cons (.inl ⟨_, _, _, rfl, rfl, rfl⟩) (r_field rfl rfl rfl rfl ok26 rfl rfl) <| .cons (.inl ⟨_, _, _, rfl, rfl, rfl⟩) (r_load rfl rfl rfl rfl ok3 rfl) ?_
      refine RT.sub [(3, _), (4, _), (5, _), (66, _), (68, _)] ⟨rfl, rfl, rfl, rfl, rfl, trivial⟩ ?_
      refine .cons (.inl ⟨_, _, _, rfl, rfl, rfl⟩) (r_field rfl rfl rfl rfl ok26 rfl rfl) <| .cons (.inl ⟨_, _, _, rfl, rfl, rfl⟩) (r_load rfl rfl rfl rfl ok3 rfl) <| .cons (.inl ⟨_, _, _, rfl, rfl, rfl⟩) (r_cmp rfl rfl rfl rfl rfl) <| .cons rfl (r_pick_true rfl rfl rfl rfl) <| .nil ?_
      obtain rfl := Option.some.inj h1
      exact ⟨rfl, rfl, rfl, rfl, trivial⟩
     ·refine .pass (.inl ⟨_, _, _, rfl, rfl, rfl⟩) <| .pass (.inl ⟨_, _, _, rfl, rfl, rfl⟩) ?_
      refine RT.sub [(3, _), (4, _), (5, _), (66, _), (68, _)] ⟨rfl, rfl, rfl, rfl, rfl, trivial⟩ ?_
      refine .pass (.inl ⟨_, _, _, rfl, rfl, rfl⟩) <| .pass (.inl ⟨_, _, _, rfl, rfl, rfl⟩) <| .pass (.inl ⟨_, _, _, rfl, rfl, rfl⟩) <| .cons rfl (r_pick_false rfl rfl rfl rfl) <| .nil ?_
      obtain rfl := Option.some.inj h1
      exact ⟨rfl, rfl, rfl, rfl, trivial⟩
    ·intro l1 hl1
     refine AW.weaken hl1.sub ?_
     refine AW.sub [(3, _), (4, _), (5, _), (72, _)] ⟨rfl, rfl, rfl, rfl, trivial⟩ ?_
     obtain ⟨z20, h1, h0⟩ := bindE h0
     refine AW.joinX z20 [(3, _)] ⟨rfl, trivial⟩ (fun s19 => []) ?_ ?_
     ·refine AW.ifP rfl h1 (fun h1 => ?_) (fun h1 => ?_)
      ·refine AW.seq (AW.reg hn hfx rfl ?_)
       refine .cons rfl (r_load_ref rfl rfl rfl rfl ok26) <| .cons rfl (r_load_ref rfl rfl rfl rfl ok26) ?_
       obtain ⟨x21, hx21, h1⟩ := bindE h1
       refine .cons rfl (r_call rfl rfl rfl Try.func8 rfl rfl (W8 hx21) rfl) <| .cons rfl (r_moveTup (.inl rfl) rfl) ?_
       refine RT.sub [(3, _), (4, _), (5, _), (73, _)] ⟨rfl, rfl, rfl, rfl, trivial⟩ ?_
       refine .cons rfl (r_extract_copy rfl rfl rfl rfl) <| .cons rfl (r_extract_copy rfl rfl rfl rfl) <| .cons rfl (r_copy (.inr rfl) rfl rfl) <| .cons rfl (r_copy (.inr rfl) rfl rfl) <| .nil ?_
       refine AW.sub [(3, _), (4, _), (5, _), (9, _), (10, _)] ⟨rfl, rfl, rfl, rfl, rfl, trivial⟩ ?_
       obtain ⟨z23, h2, h1⟩ := bindE h1
       refine AW.seq (AW.joinJ [(3, _), (4, _), (5, _)] ⟨rfl, rfl, rfl, trivial⟩ [(82, .val .bool 0 z23)] ?_ ?_)
       ·refine AW.reg hn hfx rfl ?_
        refine .cons rfl (r_copy (.inl rfl) rfl rfl) ?_
        refine .ifP (.inl rfl) rfl rfl h2 (fun h2 => ?_) (fun h2 => ?_)
        ·refine .cons (.inl ⟨_, _, _, rfl, rfl, rfl⟩) (r_copy (.inl rfl) rfl rfl) <| .cons rfl (r_pick_true rfl rfl rfl rfl) <| .nil ?_
         obtain rfl := Option.some.inj h2
         exact ⟨rfl, rfl, rfl, rfl, trivial⟩
        ·refine .pass (.inl ⟨_, _, _, rfl, rfl, rfl⟩) <| .cons rfl (r_pick_false rfl rfl rfl rfl) <| .nil ?_
         obtain rfl := Option.some.inj h2
         exact ⟨rfl, rfl, rfl, rfl, trivial⟩
       ·intro l1 hl1
        refine AW.weaken hl1.sub ?_
        refine AW.ifP rfl h1 (fun h1 => ?_) (fun h1 => ?_)
        ·refine AW.seq (AW.reg hn hfx rfl ?_)
         refine .cons rfl (r_load_ref rfl rfl rfl rfl ok26) <| .cons rfl (r_load_ref rfl rfl rfl rfl ok26) ?_
         obtain ⟨x25, hx25, h1⟩ := bindE h1
         refine .cons rfl (r_call rfl rfl rfl Try.func9 rfl rfl (W9 hx25) rfl) <| .cons rfl (r_moveTup (.inl rfl) rfl) ?_
         refine RT.sub [(3, _), (5, _), (83, _)] ⟨rfl, rfl, rfl, trivial⟩ ?_
         refine .cons rfl (r_extract_copy rfl rfl rfl rfl) <| .cons rfl (r_extract_copy rfl rfl rfl rfl) <| .cons rfl (r_copy (.inr rfl) rfl rfl) <| .cons rfl (r_copy (.inr rfl) rfl rfl) <| .nil ?_
         refine AW.sub [(3, _), (5, _), (11, _), (12, _)] ⟨rfl, rfl, rfl, rfl, trivial⟩ ?_
         obtain ⟨z27, h2, h1⟩ := bindE h1
         refine AW.seq (AW.joinJ [(3, _)] ⟨rfl, trivial⟩ [(94, .val .bool 0 z27)] ?_ ?_)
         ·refine AW.reg hn hfx rfl ?_
          refine .cons rfl (r_copy (.inl rfl) rfl rfl) ?_
          refine .ifP (.inl rfl) rfl rfl h2 (fun h2 => ?_) (fun h2 => ?_)
          ·refine .cons (.inl ⟨_, _, _, rfl, rfl, rfl⟩) (r_copy (.inl rfl) rfl rfl) <| .cons (.inl ⟨_, _, _, rfl, rfl, rfl⟩) (r_copy (.inl rfl) rfl rfl) ?_
           refine RT.sub [(3, _), (90, _), (91, _), (92, _)] ⟨rfl, rfl, rfl, rfl, trivial⟩ ?_
           refine .cons (.inl ⟨_, _, _, rfl, rfl, rfl⟩) (r_cmpB rfl rfl rfl ok4 rfl rfl) <| .cons rfl (r_pick_true rfl rfl rfl rfl) <| .nil ?_
           obtain rfl := Option.some.inj h2
           exact ⟨rfl, rfl, trivial⟩
          ·refine .pass (.inl ⟨_, _, _, rfl, rfl, rfl⟩) <| .pass (.inl ⟨_, _, _, rfl, rfl, rfl⟩) ?_
           refine RT.sub [(3, _), (90, _), (91, _), (92, _)] ⟨rfl, rfl, rfl, rfl, trivial⟩ ?_
           refine .pass (.inl ⟨_, _, _, rfl, rfl, rfl⟩) <| .cons rfl (r_pick_false rfl rfl rfl rfl) <| .nil ?_
           obtain rfl := Option.some.inj h2
           exact ⟨rfl, rfl, trivial⟩
         ·intro l1 hl1
          refine AW.weaken hl1.sub ?_
          refine AW.ifP rfl h1 (fun h1 => ?_) (fun h1 => ?_)
          ·refine AW.seq (AW.reg hn hfx rfl ?_)
           refine .cons rfl (r_copy (.inr rfl) rfl rfl) <| .nil ?_
           refine AW.sub [(2, _)] ⟨rfl, trivial⟩ ?_
           refine AW.ret ?_
           obtain rfl := Option.some.inj h1
           obtain rfl := Option.some.inj h0
           exact ⟨_, .tmp rfl rfl .nil, .inl ⟨rfl, rfl⟩, trivial⟩
          ·refine AW.skip ?_
           obtain rfl := Option.some.inj h1
           exact ⟨_, rfl, ⟨rfl, trivial⟩⟩
        ·refine AW.skip ?_
         obtain rfl := Option.some.inj h1
         exact ⟨_, rfl, ⟨rfl, trivial⟩⟩
      ·refine AW.skip ?_
       obtain rfl := Option.some.inj h1
       exact ⟨_, rfl, ⟨rfl, trivial⟩⟩
     ·rintro s19 rfl l1 hl1
      refine AW.weaken hl1.sub ?_
      refine AW.seq (AW.reg hn hfx rfl ?_)
      refine .cons rfl (r_load_ref rfl rfl rfl rfl ok26) ?_
      obtain ⟨x30, hx30, h0⟩ := bindE h0
      refine .cons rfl (r_call rfl rfl rfl Try.func10 rfl rfl (W10 hx30) rfl) <| .cons rfl (r_moveTup (.inl rfl) rfl) <| .cons rfl (r_extract rfl rfl rfl) ?_
      refine RT.sub [(3, _), (95, _), (98, _)] ⟨rfl, rfl, rfl, trivial⟩ ?_
      refine .cons rfl (r_extract_copy rfl rfl rfl rfl) <| .cons rfl (r_assign [] (.inl rfl) rfl rfl) <| .cons rfl (r_copy (.inr rfl) rfl rfl) <| .nil ?_
      refine AW.sub [(3, _), (13, _), (14, _)] ⟨rfl, rfl, rfl, trivial⟩ ?_
      refine AW.seq ?_
      refine AW.lower 3 0 rfl ?_
      refine AW.seq (AW.reg hn hfx rfl ?_)
      refine .cons rfl (r_load_shared rfl rfl ok26) ?_
      obtain ⟨x31, hx31, h0⟩ := bindE h0
      refine .cons rfl (r_callG none rfl rfl Try.func11 rfl rfl (W11 hx31) ⟨rfl, trivial⟩ rfl) <| .cons rfl (r_moveTup (.inl rfl) rfl) <| .cons rfl (r_extract rfl rfl rfl) ?_
      refine RT.sub [(3, _), (13, _), (14, _), (100, _), (103, _)] ⟨rfl, rfl, rfl, rfl, rfl, trivial⟩ ?_
      refine .cons rfl (r_extract_copy rfl rfl rfl rfl) <| .cons rfl (r_assign [] (.inl rfl) rfl rfl) <| .cons rfl (r_copy (.inr rfl) rfl rfl) <| .nil ?_
      refine AW.sub [(3, _), (13, _), (14, _), (15, _), (16, _)] ⟨rfl, rfl, rfl, rfl, rfl, trivial⟩ ?_
      obtain ⟨z34, h1, h0⟩ := bindE h0
      refine AW.seq (AW.joinJ [(3, _), (13, _), (14, _)] ⟨rfl, rfl, rfl, trivial⟩ [(113, .val .bool 0 z34)] ?_ ?_)
      ·refine AW.reg hn hfx rfl ?_
       refine .cons rfl (r_copy (.inl rfl) rfl rfl) <| .cons rfl (r_copy (.inl rfl) rfl rfl) <| .cons rfl (r_cmpB rfl rfl rfl ok4 rfl rfl) ?_
       refine .ifP (.inl rfl) rfl rfl h1 (fun h1 => ?_) (fun h1 => ?_)
       ·refine RT.sub [(3, _), (13, _), (14, _), (15, _), (108, _)] ⟨rfl, rfl, rfl, rfl, rfl, trivial⟩ ?_
        refine .pass (.inl ⟨_, _, _, rfl, rfl, rfl⟩) <| .pass (.inl ⟨_, _, _, rfl, rfl, rfl⟩) <| .pass (.inl ⟨_, _, _, rfl, rfl, rfl⟩) <| .pass (.inl ⟨_, _, _, rfl, rfl, rfl⟩) ?_
        refine RT.sub [(3, _), (13, _), (14, _), (108, _), (112, _)] ⟨rfl, rfl, rfl, rfl, rfl, trivial⟩ ?_
        refine .cons rfl (r_pick_true rfl rfl rfl rfl) <| .nil ?_
        obtain rfl := Option.some.inj h1
        exact ⟨rfl, rfl, rfl, rfl, trivial⟩
       ·refine RT.sub [(3, _), (13, _), (14, _), (15, _), (108, _)] ⟨rfl, rfl, rfl, rfl, rfl, trivial⟩ ?_
        refine .cons (.inl ⟨_, _, _, rfl, rfl, rfl⟩) (r_alias rfl rfl) <| .cons (.inl ⟨_, _, _, rfl, rfl, rfl⟩) (r_alias rfl rfl) ?_
        obtain ⟨x35, hx35, h1⟩ := bindE h1
        refine .cons (.inl ⟨_, _, _, rfl, rfl, rfl⟩) (r_call rfl rfl rfl Try.func12 rfl rfl (W12 hx35) rfl) <| .cons (.inl ⟨_, _, _, rfl, rfl, rfl⟩) (r_not rfl rfl rfl) ?_
        refine RT.sub [(3, _), (13, _), (14, _), (108, _), (112, _)] ⟨rfl, rfl, rfl, rfl, rfl, trivial⟩ ?_
        refine .cons rfl (r_pick_false rfl rfl rfl rfl) <| .nil ?_
        obtain rfl := Option.some.inj h1
        exact ⟨rfl, rfl, rfl, rfl, trivial⟩
      ·intro l1 hl1
       refine AW.weaken hl1.sub ?_
       refine AW.ifP rfl h0 (fun h0 => ?_) (fun h0 => ?_)
       ·refine AW.seq (AW.reg hn hfx rfl ?_)
        refine .cons rfl (r_copy (.inr rfl) rfl rfl) <| .nil ?_
        refine AW.sub [(2, _)] ⟨rfl, trivial⟩ ?_
        refine AW.ret ?_
        obtain rfl := Option.some.inj h0
        exact ⟨_, .tmp rfl rfl .nil, .inl ⟨rfl, rfl⟩, trivial⟩
       ·refine AW.skip ?_
        refine AW.seq ?_
        refine AW.seq (AW.reg hn hfx rfl ?_)
        refine .cons rfl (r_copy (.inl rfl) rfl rfl) <| .cons rfl (r_not rfl rfl rfl) <| .nil ?_
        refine AW.sub [(3, _), (13, _), (115, _)] ⟨rfl, rfl, rfl, trivial⟩ ?_
        refine AW.ifP rfl h0 (fun h0 => ?_) (fun h0 => ?_)
        ·refine AW.seq (AW.reg hn hfx rfl ?_)
         refine .cons rfl (r_copy (.inr rfl) rfl rfl) <| .nil ?_
         refine AW.sub [(2, _)] ⟨rfl, trivial⟩ ?_
         refine AW.ret ?_
         obtain rfl := Option.some.inj h0
         exact ⟨_, .tmp rfl rfl .nil, .inl ⟨rfl, rfl⟩, trivial⟩
        ·refine AW.skip ?_
         refine AW.seq (AW.reg hn hfx rfl ?_)
         refine .cons rfl (r_load_shared rfl rfl ok26) ?_
         obtain ⟨x37, hx37, h0⟩ := bindE h0
         refine .cons rfl (r_call rfl rfl rfl Try.func13 rfl rfl (W13 hx37) rfl) <| .cons rfl (r_moveTup (.inl rfl) rfl) <| .cons rfl (r_extract_copy rfl rfl rfl rfl) ?_
         refine RT.sub [(3, _), (13, _), (116, _), (119, _)] ⟨rfl, rfl, rfl, rfl, trivial⟩ ?_
         refine .cons rfl (r_extract_copy rfl rfl rfl rfl) <| .cons rfl (r_copy (.inr rfl) rfl rfl) <| .cons rfl (r_copy (.inr rfl) rfl rfl) <| .nil ?_
         refine AW.sub [(3, _), (13, _), (17, _), (18, _)] ⟨rfl, rfl, rfl, rfl, trivial⟩ ?_
         refine AW.seq ?_
         refine AW.seq (AW.reg hn hfx rfl ?_)
         refine .cons rfl (r_load_shared rfl rfl ok26) ?_
         obtain ⟨x38, hx38, h0⟩ := bindE h0
         refine .cons rfl (r_call rfl rfl rfl Try.func14 rfl rfl (W14 hx38) rfl) <| .cons rfl (r_moveTup (.inl rfl) rfl) <| .cons rfl (r_extract_copy rfl rfl rfl rfl) ?_
         refine RT.sub [(3, _), (13, _), (17, _), (18, _), (121, _), (124, _)] ⟨rfl, rfl, rfl, rfl, rfl, rfl, trivial⟩ ?_
         refine .cons rfl (r_extract_copy rfl rfl rfl rfl) <| .cons rfl (r_copy (.inr rfl) rfl rfl) <| .cons rfl (r_copy (.inr rfl) rfl rfl) <| .nil ?_
         refine AW.sub [(3, _), (13, _), (17, _), (18, _), (19, _), (20, _)] ⟨rfl, rfl, rfl, rfl, rfl, rfl, trivial⟩ ?_
         obtain ⟨z40, h1, h0⟩ := bindE h0
         refine AW.seq (AW.joinJ [(3, _), (13, _), (17, _)] ⟨rfl, rfl, rfl, trivial⟩ [(137, .val .bool 0 z40)] ?_ ?_)
         ·refine AW.reg hn hfx rfl ?_
          refine .cons rfl (r_copy (.inl rfl) rfl rfl) <| .cons rfl (r_copy (.inl rfl) rfl rfl) <| .cons rfl (r_cmp rfl rfl rfl rfl rfl) ?_
          refine .ifP (.inl rfl) rfl rfl h1 (fun h1 => ?_) (fun h1 => ?_)
          ·refine RT.sub [(3, _), (13, _), (17, _), (18, _), (20, _), (129, _)] ⟨rfl, rfl, rfl, rfl, rfl, rfl, trivial⟩ ?_
           refine .pass (.inl ⟨_, _, _, rfl, rfl, rfl⟩) <| .pass (.inl ⟨_, _, _, rfl, rfl, rfl⟩) <| .pass (.inl ⟨_, _, _, rfl, rfl, rfl⟩) <| .cons rfl (r_pick_true rfl rfl rfl rfl) ?_
           refine RT.sub [(3, _), (13, _), (17, _), (18, _), (133, _)] ⟨rfl, rfl, rfl, rfl, rfl, trivial⟩ ?_
           refine .cons rfl (r_copy (.inl rfl) rfl rfl) <| .pass (.inl ⟨_, _, _, rfl, rfl, rfl⟩) <| .pass (.inl ⟨_, _, _, rfl, rfl, rfl⟩) <| .cons rfl (r_pick_true rfl rfl rfl rfl) <| .nil ?_
           obtain rfl := Option.some.inj h1
           exact ⟨rfl, rfl, rfl, rfl, trivial⟩
          ·refine RT.sub [(3, _), (13, _), (17, _), (18, _), (20, _), (129, _)] ⟨rfl, rfl, rfl, rfl, rfl, rfl, trivial⟩ ?_
           refine .cons (.inl ⟨_, _, _, rfl, rfl, rfl⟩) (r_copy (.inl rfl) rfl rfl) <| .cons (.inl ⟨_, _, _, rfl, rfl, rfl⟩) (r_copy (.inl rfl) rfl rfl) <| .cons (.inl ⟨_, _, _, rfl, rfl, rfl⟩) (r_cmpB rfl rfl rfl ok4 rfl rfl) <| .cons rfl (r_pick_false rfl rfl rfl rfl) ?_
           refine RT.sub [(3, _), (13, _), (17, _), (18, _), (133, _)] ⟨rfl, rfl, rfl, rfl, rfl, trivial⟩ ?_
           refine .ifP (.inl rfl) rfl rfl h1 (fun h1 => ?_) (fun h1 => ?_)
           ·refine .pass (.inl ⟨_, _, _, rfl, rfl, rfl⟩) <| .pass (.inl ⟨_, _, _, rfl, rfl, rfl⟩) <| .cons rfl (r_pick_true rfl rfl rfl rfl) <| .nil ?_
            obtain rfl := Option.some.inj h1
            exact ⟨rfl, rfl, rfl, rfl, trivial⟩
           ·refine .cons (.inl ⟨_, _, _, rfl, rfl, rfl⟩) (r_copy (.inl rfl) rfl rfl) <| .cons (.inl ⟨_, _, _, rfl, rfl, rfl⟩) (r_not rfl rfl rfl) <| .cons rfl (r_pick_false rfl rfl rfl rfl) <| .nil ?_
            obtain rfl := Option.some.inj h1
            exact ⟨rfl, rfl, rfl, rfl, trivial⟩
         ·intro l1 hl1
          refine AW.weaken hl1.sub ?_
          refine AW.ifP rfl h0 (fun h0 => ?_) (fun h0 => ?_)
          ·refine AW.seq (AW.reg hn hfx rfl ?_)
           refine .cons rfl (r_copy (.inr rfl) rfl rfl) <| .nil ?_
           refine AW.sub [(2, _)] ⟨rfl, trivial⟩ ?_
           refine AW.ret ?_
           obtain rfl := Option.some.inj h0
           exact ⟨_, .tmp rfl rfl .nil, .inl ⟨rfl, rfl⟩, trivial⟩
          ·refine AW.skip ?_
           refine AW.seq (AW.reg hn hfx rfl ?_)
           refine .cons rfl (r_copy (.inr rfl) rfl rfl) <| .nil ?_
           refine AW.sub [(3, _), (13, _), (17, _), (21, _)] ⟨rfl, rfl, rfl, rfl, trivial⟩ ?_
           refine AW.seq ?_
           refine AW.seq (AW.reg hn hfx rfl ?_)
           refine .cons rfl (r_copy (.inr rfl) rfl rfl) <| .nil ?_
           refine AW.sub [(3, _), (13, _), (17, _), (21, _), (22, _)] ⟨rfl, rfl, rfl, rfl, rfl, trivial⟩ ?_
           obtain ⟨z46, h1, h0⟩ := bindE h0
           refine AW.joinJ [(3, _), (13, _), (17, _)] ⟨rfl, rfl, rfl, trivial⟩ [(21, .val tInt 0 z46)] ?_ ?_
           ·refine AW.block ?_
            refine AW.loopP h1 [(3, _), (13, _), (17, _)] ⟨rfl, rfl, rfl, trivial⟩ (fun s48 => [(21, .val tInt 0 s48.1), (22, .val tInt 0 s48.2)]) ⟨rfl, rfl, rfl, rfl, rfl, trivial⟩ fun s48 z49 h2 => ?_
            refine AW.seq ?_
            refine AW.seq (AW.reg hn hfx rfl ?_)
            refine .cons rfl (r_copy (.inl rfl) rfl rfl) <| .cons rfl (r_field_shared rfl rfl ok26 rfl rfl rfl) <| .cons rfl (r_load_shared rfl rfl ok3) <| .cons rfl (r_cmp rfl rfl rfl rfl rfl) <| .nil ?_
            refine AW.sub [(3, _), (13, _), (17, _), (21, _), (22, _), (141, _)] ⟨rfl, rfl, rfl, rfl, rfl, rfl, trivial⟩ ?_
            refine AW.ifP rfl h2 (fun h2 => ?_) (fun h2 => ?_)
            ·refine AW.skip ?_
             refine AW.seq (AW.block ?_)
             refine AW.reg hn hfx rfl ?_
             refine .cons rfl (r_copy (.inl rfl) rfl rfl) <| .cons rfl (r_copy (.inl rfl) rfl rfl) <| .cons rfl (r_arith rfl rfl rfl rfl rfl) <| .cons rfl (r_copy (.inr rfl) rfl rfl) <| .nil ?_
             refine AW.sub [(3, _), (13, _), (17, _), (21, _), (22, _)] ⟨rfl, rfl, rfl, rfl, rfl, trivial⟩ ?_
             refine AW.reg hn hfx rfl ?_
             refine .cons rfl (r_copy (.inl rfl) rfl rfl) <| .cons rfl (r_arith rfl rfl rfl rfl rfl) <| .cons rfl (r_copy (.inr rfl) rfl rfl) <| .nil ?_
             exact ⟨_, (Option.some.inj h2).symm, ⟨rfl, rfl, rfl, rfl, rfl, trivial⟩⟩
            ·refine AW.exit ?_
             refine ⟨_, (Option.some.inj h2).symm, fun hz => ?_⟩
             subst hz
             exact ⟨rfl, rfl, rfl, rfl, trivial⟩
           ·intro l1 hl1
            refine AW.weaken hl1.sub ?_
            refine AW.seq ?_
            refine AW.seq (AW.reg hn hfx rfl ?_)
            refine .cons rfl (r_copy (.inl rfl) rfl rfl) <| .cons rfl (r_alias rfl rfl) <| .cons rfl (r_len_own rfl rfl rfl rfl ok31 rfl) <| .cons rfl (r_arith rfl rfl rfl rfl rfl) ?_
            refine RT.sub [(3, _), (13, _), (21, _), (150, _)] ⟨rfl, rfl, rfl, rfl, trivial⟩ ?_
            refine .cons rfl (r_copy (.inl rfl) rfl rfl) <| .cons rfl (r_cmp rfl rfl rfl rfl rfl) <| .nil ?_
            refine AW.sub [(3, _), (13, _), (152, _)] ⟨rfl, rfl, rfl, trivial⟩ ?_
            refine AW.ifP rfl h0 (fun h0 => ?_) (fun h0 => ?_)
            ·refine AW.seq (AW.reg hn hfx rfl ?_)
             refine .cons rfl (r_copy (.inr rfl) rfl rfl) <| .nil ?_
             refine AW.sub [(2, _)] ⟨rfl, trivial⟩ ?_
             refine AW.ret ?_
             obtain rfl := Option.some.inj h0
             exact ⟨_, .tmp rfl rfl .nil, .inl ⟨rfl, rfl⟩, trivial⟩
            ·refine AW.skip ?_
             refine AW.seq (AW.reg hn hfx rfl ?_)
             refine .cons rfl (r_load_shared rfl rfl ok26) ?_
             obtain ⟨x51, hx51, h0⟩ := bindE h0
             refine .cons rfl (r_call rfl rfl rfl Try.func15 rfl rfl (W15 hx51) rfl) <| .cons rfl (r_moveTup (.inl rfl) rfl) <| .cons rfl (r_extract rfl rfl rfl) ?_
             refine RT.sub [(3, _), (13, _), (153, _), (156, _)] ⟨rfl, rfl, rfl, rfl, trivial⟩ ?_
             refine .cons rfl (r_extract_copy rfl rfl rfl rfl) <| .cons rfl (r_assign [] (.inl rfl) rfl rfl) <| .cons rfl (r_copy (.inr rfl) rfl rfl) <| .nil ?_
             refine AW.sub [(3, _), (13, _), (23, _), (24, _)] ⟨rfl, rfl, rfl, rfl, trivial⟩ ?_
             refine AW.seq ?_
             refine AW.seq (AW.reg hn hfx rfl ?_)
             refine .cons rfl (r_load_shared rfl rfl ok26) ?_
             obtain ⟨x52, hx52, h0⟩ := bindE h0
             refine .cons rfl (r_callG none rfl rfl Try.func16 rfl rfl (W16 hx52) ⟨rfl, trivial⟩ rfl) <| .cons rfl (r_moveTup (.inl rfl) rfl) <| .cons rfl (r_extract_copy rfl rfl rfl rfl) ?_
             refine RT.sub [(3, _), (13, _), (23, _), (24, _), (158, _), (161, _)] ⟨rfl, rfl, rfl, rfl, rfl, rfl, trivial⟩ ?_
             refine .cons rfl (r_extract_copy rfl rfl rfl rfl) <| .cons rfl (r_copy (.inr rfl) rfl rfl) <| .cons rfl (r_copy (.inr rfl) rfl rfl) <| .nil ?_
             refine AW.sub [(3, _), (13, _), (23, _), (24, _), (25, _), (26, _)] ⟨rfl, rfl, rfl, rfl, rfl, rfl, trivial⟩ ?_
             obtain ⟨z55, h1, h0⟩ := bindE h0
             refine AW.seq (AW.joinJ [(3, _), (13, _), (23, _), (24, _)] ⟨rfl, rfl, rfl, rfl, trivial⟩ [(181, .val .bool 0 z55)] ?_ ?_)
             ·refine AW.reg hn hfx rfl ?_
              refine .cons rfl (r_copy (.inl rfl) rfl rfl) <| .cons rfl (r_copy (.inl rfl) rfl rfl) <| .cons rfl (r_cmpB rfl rfl rfl ok4 rfl rfl) ?_
              refine .ifP (.inl rfl) rfl rfl h1 (fun h1 => ?_) (fun h1 => ?_)
              ·refine RT.sub [(3, _), (13, _), (23, _), (24, _), (25, _), (166, _)] ⟨rfl, rfl, rfl, rfl, rfl, rfl, trivial⟩ ?_
               refine .pass (.inl ⟨_, _, _, rfl, rfl, rfl⟩) <| .pass (.inl ⟨_, _, _, rfl, rfl, rfl⟩) <| .pass (.inl ⟨_, _, _, rfl, rfl, rfl⟩) <| .pass (.inl ⟨_, _, _, rfl, rfl, rfl⟩) ?_
               refine RT.sub [(3, _), (13, _), (23, _), (24, _), (166, _), (170, _)] ⟨rfl, rfl, rfl, rfl, rfl, rfl, trivial⟩ ?_
               refine .cons rfl (r_pick_true rfl rfl rfl rfl) <| .cons rfl (r_copy (.inl rfl) rfl rfl) <| .pass (.inl ⟨_, _, _, rfl, rfl, rfl⟩) <| .pass (.inl ⟨_, _, _, rfl, rfl, rfl⟩) ?_
               refine RT.sub [(3, _), (13, _), (23, _), (24, _), (172, _), (174, _)] ⟨rfl, rfl, rfl, rfl, rfl, rfl, trivial⟩ ?_
               refine .pass (.inr ⟨_, _, rfl, rfl, rfl⟩) <| .pass (.inr ⟨_, _, rfl, rfl, rfl⟩) <| .pass (.inr ⟨_, _, rfl, rfl, rfl⟩) <| .pass (.inr ⟨_, _, rfl, rfl, rfl⟩) ?_
               refine RT.sub [(3, _), (13, _), (23, _), (24, _), (172, _), (174, _), (176, _), (178, _)] ⟨rfl, rfl, rfl, rfl, rfl, rfl, rfl, rfl, trivial⟩ ?_
               refine .pass (.inr ⟨_, _, rfl, rfl, rfl⟩) <| .pass (.inl ⟨_, _, _, rfl, rfl, rfl⟩) <| .cons rfl (r_pick_true rfl rfl rfl rfl) <| .nil ?_
               obtain rfl := Option.some.inj h1
               exact ⟨rfl, rfl, rfl, rfl, rfl, trivial⟩
              ·refine RT.sub [(3, _), (13, _), (23, _), (24, _), (25, _), (166, _)] ⟨rfl, rfl, rfl, rfl, rfl, rfl, trivial⟩ ?_
               refine .cons (.inl ⟨_, _, _, rfl, rfl, rfl⟩) (r_alias rfl rfl) <| .cons (.inl ⟨_, _, _, rfl, rfl, rfl⟩) (r_copy (.inl rfl) rfl rfl) ?_
               obtain ⟨x56, hx56, h1⟩ := bindE h1
               refine .cons (.inl ⟨_, _, _, rfl, rfl, rfl⟩) (r_call rfl rfl rfl Try.func12 rfl rfl (W12 hx56) rfl) <| .cons (.inl ⟨_, _, _, rfl, rfl, rfl⟩) (r_not rfl rfl rfl) ?_
               refine RT.sub [(3, _), (13, _), (23, _), (24, _), (166, _), (170, _)] ⟨rfl, rfl, rfl, rfl, rfl, rfl, trivial⟩ ?_
               refine .cons rfl (r_pick_false rfl rfl rfl rfl) ?_
               refine .ifP (.inl rfl) rfl rfl h1 (fun h1 => ?_) (fun h1 => ?_)
               ·refine .pass (.inl ⟨_, _, _, rfl, rfl, rfl⟩) <| .pass (.inl ⟨_, _, _, rfl, rfl, rfl⟩) ?_
                refine RT.sub [(3, _), (13, _), (23, _), (24, _), (172, _), (174, _)] ⟨rfl, rfl, rfl, rfl, rfl, rfl, trivial⟩ ?_
                refine .pass (.inr ⟨_, _, rfl, rfl, rfl⟩) <| .pass (.inr ⟨_, _, rfl, rfl, rfl⟩) <| .pass (.inr ⟨_, _, rfl, rfl, rfl⟩) <| .pass (.inr ⟨_, _, rfl, rfl, rfl⟩) ?_
                refine RT.sub [(3, _), (13, _), (23, _), (24, _), (172, _), (174, _), (176, _), (178, _)] ⟨rfl, rfl, rfl, rfl, rfl, rfl, rfl, rfl, trivial⟩ ?_
                refine .pass (.inr ⟨_, _, rfl, rfl, rfl⟩) <| .pass (.inl ⟨_, _, _, rfl, rfl, rfl⟩) <| .cons rfl (r_pick_true rfl rfl rfl rfl) <| .nil ?_
                obtain rfl := Option.some.inj h1
                exact ⟨rfl, rfl, rfl, rfl, rfl, trivial⟩
               ·refine .cons (.inl ⟨_, _, _, rfl, rfl, rfl⟩) (r_copy (.inl rfl) rfl rfl) ?_
                refine .ifP (.inl rfl) rfl (.inl ⟨_, _, _, rfl, rfl, rfl⟩) h1 (fun h1 => ?_) (fun h1 => ?_)
                ·refine RT.sub [(3, _), (13, _), (23, _), (24, _), (172, _), (174, _)] ⟨rfl, rfl, rfl, rfl, rfl, rfl, trivial⟩ ?_
                 refine .cons (.inl ⟨_, _, _, rfl, rfl, rfl⟩) (r_alias rfl rfl) <| .cons (.inl ⟨_, _, _, rfl, rfl, rfl⟩) (r_len_own rfl rfl rfl rfl ok31 rfl) <| .cons (.inl ⟨_, _, _, rfl, rfl, rfl⟩) (r_alias rfl rfl) <| .cons (.inl ⟨_, _, _, rfl, rfl, rfl⟩) (r_len_own rfl rfl rfl rfl ok31 rfl) ?_
                 refine RT.sub [(3, _), (13, _), (23, _), (24, _), (172, _), (174, _), (176, _), (178, _)] ⟨rfl, rfl, rfl, rfl, rfl, rfl, rfl, rfl, trivial⟩ ?_
                 refine .cons (.inl ⟨_, _, _, rfl, rfl, rfl⟩) (r_cmp rfl rfl rfl rfl rfl) <| .cons (.inl ⟨_, _, _, rfl, rfl, rfl⟩) (r_pick_true rfl rfl rfl rfl) <| .cons rfl (r_pick_false rfl rfl rfl rfl) <| .nil ?_
                 obtain rfl := Option.some.inj h1
                 exact ⟨rfl, rfl, rfl, rfl, rfl, trivial⟩
                ·refine RT.sub [(3, _), (13, _), (23, _), (24, _), (172, _), (174, _)] ⟨rfl, rfl, rfl, rfl, rfl, rfl, trivial⟩ ?_
                 refine .pass (.inl ⟨_, _, _, rfl, rfl, rfl⟩) <| .pass (.inl ⟨_, _, _, rfl, rfl, rfl⟩) <| .pass (.inl ⟨_, _, _, rfl, rfl, rfl⟩) <| .pass (.inl ⟨_, _, _, rfl, rfl, rfl⟩) ?_
                 refine RT.sub [(3, _), (13, _), (23, _), (24, _), (172, _), (174, _), (176, _), (178, _)] ⟨rfl, rfl, rfl, rfl, rfl, rfl, rfl, rfl, trivial⟩ ?_
                 refine .pass (.inl ⟨_, _, _, rfl, rfl, rfl⟩) <| .cons (.inl ⟨_, _, _, rfl, rfl, rfl⟩) (r_pick_false rfl rfl rfl rfl) <| .cons rfl (r_pick_false rfl rfl rfl rfl) <| .nil ?_
                 obtain rfl := Option.some.inj h1
                 exact ⟨rfl, rfl, rfl, rfl, rfl, trivial⟩
             ·intro l1 hl1
              refine AW.weaken hl1.sub ?_
              refine AW.ifP rfl h0 (fun h0 => ?_) (fun h0 => ?_)
              ·refine AW.seq (AW.reg hn hfx rfl ?_)
               refine .cons rfl (r_copy (.inr rfl) rfl rfl) <| .nil ?_
               refine AW.sub [(2, _)] ⟨rfl, trivial⟩ ?_
               refine AW.ret ?_
               obtain rfl := Option.some.inj h0
               exact ⟨_, .tmp rfl rfl .nil, .inl ⟨rfl, rfl⟩, trivial⟩
              ·refine AW.skip ?_
               refine AW.seq ?_
               refine AW.seq (AW.reg hn hfx rfl ?_)
               refine .cons rfl (r_copy (.inr rfl) rfl rfl) <| .nil ?_
               refine AW.sub [(3, _), (13, _), (23, _), (24, _), (27, _)] ⟨rfl, rfl, rfl, rfl, rfl, trivial⟩ ?_
               obtain ⟨z76, h1, h0⟩ := bindE h0
               refine AW.joinX z76 [(3, _)] ⟨rfl, trivial⟩ (fun s75 => []) ?_ ?_
               ·refine AW.block ?_
                refine AW.loopP h1 [(3, _), (13, _), (23, _), (24, _)] ⟨rfl, rfl, rfl, rfl, trivial⟩ (fun s85 => [(27, .val tInt 0 s85)]) ⟨rfl, rfl, rfl, rfl, rfl, trivial⟩ fun s85 z93 h2 => ?_
                refine AW.seq ?_
                refine AW.seq (AW.reg hn hfx rfl ?_)
                refine .cons rfl (r_copy (.inl rfl) rfl rfl) <| .cons rfl (r_alias rfl rfl) <| .cons rfl (r_len_own rfl rfl rfl rfl ok31 rfl) <| .cons rfl (r_cmp rfl rfl rfl rfl rfl) <| .nil ?_
                refine AW.sub [(3, _), (13, _), (23, _), (24, _), (27, _), (185, _)] ⟨rfl, rfl, rfl, rfl, rfl, rfl, trivial⟩ ?_
                refine AW.ifP rfl h2 (fun h2 => ?_) (fun h2 => ?_)
                ·refine AW.skip ?_
                 refine AW.seq (AW.block ?_)
                 refine AW.sub [(3, _), (13, _), (23, _), (24, _), (27, _)] ⟨rfl, rfl, rfl, rfl, rfl, trivial⟩ ?_
                 obtain ⟨z89, h3, h2⟩ := bindE h2
                 refine AW.seq (AW.joinJ [(3, _), (13, _), (23, _), (24, _), (27, _)] ⟨rfl, rfl, rfl, rfl, rfl, trivial⟩ [(197, .val .bool 0 z89)] ?_ ?_)
                 ·refine AW.reg hn hfx rfl ?_
                  refine .cons rfl (r_copy (.inl rfl) rfl rfl) ?_
                  refine .ifP (.inl rfl) rfl rfl h3 (fun h3 => ?_) (fun h3 => ?_)
                  ·refine .cons (.inl ⟨_, _, _, rfl, rfl, rfl⟩) (r_alias rfl rfl) <| .cons (.inl ⟨_, _, _, rfl, rfl, rfl⟩) (r_alias rfl rfl) ?_
                   refine RT.sub [(3, _), (13, _), (23, _), (24, _), (27, _), (189, _), (190, _), (191, _)] ⟨rfl, rfl, rfl, rfl, rfl, rfl, rfl, rfl, trivial⟩ ?_
                   refine .cons (.inl ⟨_, _, _, rfl, rfl, rfl⟩) (r_copy (.inl rfl) rfl rfl) ?_
                   obtain ⟨x90, hx90, h3⟩ := bindE h3
                   refine .cons (.inl ⟨_, _, _, rfl, rfl, rfl⟩) (r_index_own rfl rfl rfl rfl rfl ok31 (idx_nn hx90) (idx_lt hx90)) <| .cons (.inl ⟨_, _, _, rfl, rfl, rfl⟩) (r_load_ref rfl rfl rfl (sub_app rfl (sub_e (idx_get hx90))) ok38) ?_
                   obtain ⟨x91, hx91, h3⟩ := bindE h3
                   refine .cons (.inl ⟨_, _, _, rfl, rfl, rfl⟩) (r_call rfl rfl (lends_cons rfl (lends_cons (lend_ref (sub_app rfl (sub_e (idx_get hx90)))) lends_nil)) Try.func17 rfl rfl (W17 hx91) rfl) ?_
                   refine RT.sub [(3, _), (13, _), (23, _), (24, _), (27, _), (189, _), (195, _)] ⟨rfl, rfl, rfl, rfl, rfl, rfl, rfl, trivial⟩ ?_
                   refine .cons (.inl ⟨_, _, _, rfl, rfl, rfl⟩) (r_cmp rfl rfl rfl rfl rfl) <| .cons rfl (r_pick_true rfl rfl rfl rfl) <| .nil ?_
                   obtain rfl := Option.some.inj h3
                   exact ⟨rfl, rfl, rfl, rfl, rfl, rfl, trivial⟩
                  ·refine .pass (.inl ⟨_, _, _, rfl, rfl, rfl⟩) <| .pass (.inl ⟨_, _, _, rfl, rfl, rfl⟩) ?_
                   refine RT.sub [(3, _), (13, _), (23, _), (24, _), (27, _), (189, _), (190, _), (191, _)] ⟨rfl, rfl, rfl, rfl, rfl, rfl, rfl, rfl, trivial⟩ ?_
                   refine .pass (.inl ⟨_, _, _, rfl, rfl, rfl⟩) <| .pass (.inl ⟨_, _, _, rfl, rfl, rfl⟩) <| .pass (.inl ⟨_, _, _, rfl, rfl, rfl⟩) <| .pass (.inl ⟨_, _, _, rfl, rfl, rfl⟩) ?_
                   refine RT.sub [(3, _), (13, _), (23, _), (24, _), (27, _), (189, _), (195, _)] ⟨rfl, rfl, rfl, rfl, rfl, rfl, rfl, trivial⟩ ?_
                   refine .pass (.inl ⟨_, _, _, rfl, rfl, rfl⟩) <| .cons rfl (r_pick_false rfl rfl rfl rfl) <| .nil ?_
                   obtain rfl := Option.some.inj h3
                   exact ⟨rfl, rfl, rfl, rfl, rfl, rfl, trivial⟩
                 ·intro l1 hl1
                  refine AW.weaken hl1.sub ?_
                  refine AW.ifP rfl h2 (fun h2 => ?_) (fun h2 => ?_)
                  ·refine AW.seq (AW.reg hn hfx rfl ?_)
                   refine .cons rfl (r_copy (.inr rfl) rfl rfl) <| .nil ?_
                   refine AW.sub [(2, _)] ⟨rfl, trivial⟩ ?_
                   refine AW.ret ?_
                   refine ⟨_, (Option.some.inj h2).symm, fun hz => ?_⟩
                   subst hz
                   obtain rfl := Option.some.inj h0
                   exact ⟨_, .tmp rfl rfl .nil, .inl ⟨rfl, rfl⟩, trivial⟩
                  ·refine AW.skip ?_
                   refine AW.reg hn hfx rfl ?_
                   refine .cons rfl (r_copy (.inl rfl) rfl rfl) <| .cons rfl (r_arith rfl rfl rfl rfl rfl) <| .cons rfl (r_copy (.inr rfl) rfl rfl) <| .nil ?_
                   exact ⟨_, (Option.some.inj h2).symm, ⟨rfl, rfl, rfl, rfl, rfl, trivial⟩⟩
                ·refine AW.exit ?_
                 refine ⟨_, (Option.some.inj h2).symm, fun hz => ?_⟩
                 subst hz
                 exact ⟨_, rfl, ⟨rfl, trivial⟩⟩
               ·rintro s75 rfl l1 hl1
                refine AW.weaken hl1.sub ?_
                refine AW.seq (AW.reg hn hfx rfl ?_)
                refine .cons rfl (r_load_shared rfl rfl ok26) ?_
                obtain ⟨x95, hx95, h0⟩ := bindE h0
                refine .cons rfl (r_call rfl rfl rfl Try.func18 rfl rfl (W18 hx95) rfl) <| .cons rfl (r_moveTup (.inl rfl) rfl) <| .cons rfl (r_extract rfl rfl rfl) ?_
                refine RT.sub [(3, _), (198, _), (201, _)] ⟨rfl, rfl, rfl, trivial⟩ ?_
                refine .cons rfl (r_extract_copy rfl rfl rfl rfl) <| .cons rfl (r_alloc rfl ok26 rfl) <| .cons rfl (r_store [] rfl rfl rfl rfl rfl rfl rfl rfl ok26 rfl rfl rfl rfl) <| .cons rfl (r_copy (.inr rfl) rfl rfl) <| .nil ?_
                refine AW.sub [(3, _), (28, _), (29, _)] ⟨rfl, rfl, rfl, trivial⟩ ?_
                refine AW.seq (AW.reg hn hfx rfl ?_)
                refine .cons rfl (r_load_shared rfl rfl ok26) ?_
                obtain ⟨x96, hx96, h0⟩ := bindE h0
                refine .cons rfl (r_call rfl rfl rfl Try.func19 rfl rfl (W19 hx96) rfl) <| .cons rfl (r_moveTup (.inl rfl) rfl) <| .cons rfl (r_extract rfl rfl rfl) ?_
                refine RT.sub [(3, _), (28, _), (29, _), (203, _), (206, _)] ⟨rfl, rfl, rfl, rfl, rfl, trivial⟩ ?_
                refine .cons rfl (r_extract_copy rfl rfl rfl rfl) <| .cons rfl (r_assign [] (.inl rfl) rfl rfl) <| .cons rfl (r_copy (.inr rfl) rfl rfl) <| .nil ?_
                refine AW.sub [(3, _), (28, _), (29, _), (30, _), (31, _)] ⟨rfl, rfl, rfl, rfl, rfl, trivial⟩ ?_
                refine AW.seq (AW.reg hn hfx rfl ?_)
                refine .cons rfl (r_load_shared rfl rfl ok26) <| .cons rfl (r_alias rfl rfl) ?_
                obtain ⟨x97, hx97, h0⟩ := bindE h0
                refine .cons rfl (r_call rfl rfl rfl Try.func20 rfl rfl (W20 hx97) rfl) <| .cons rfl (r_moveTup (.inl rfl) rfl) ?_
                refine RT.sub [(3, _), (28, _), (29, _), (31, _), (208, _)] ⟨rfl, rfl, rfl, rfl, rfl, trivial⟩ ?_
                refine .cons rfl (r_extract rfl rfl rfl) <| .cons rfl (r_extract_copy rfl rfl rfl rfl) <| .cons rfl (r_alloc rfl ok26 rfl) <| .cons rfl (r_store [] rfl rfl rfl rfl rfl rfl rfl rfl ok26 rfl rfl rfl rfl) ?_
                refine RT.sub [(3, _), (28, _), (29, _), (31, _), (32, _), (213, _)] ⟨rfl, rfl, rfl, rfl, rfl, rfl, trivial⟩ ?_
                refine .cons rfl (r_copy (.inr rfl) rfl rfl) <| .nil ?_
                refine AW.sub [(3, _), (28, _), (29, _), (31, _), (32, _), (33, _)] ⟨rfl, rfl, rfl, rfl, rfl, rfl, trivial⟩ ?_
                refine AW.seq (AW.reg hn hfx rfl ?_)
                refine .cons rfl (r_load_ref rfl rfl rfl rfl ok26) ?_
                obtain ⟨x98, hx98, h0⟩ := bindE h0
                refine .cons rfl (r_call rfl rfl rfl Try.func18 rfl rfl (W18 hx98) rfl) <| .cons rfl (r_moveTup (.inl rfl) rfl) <| .cons rfl (r_extract rfl rfl rfl) ?_
                refine RT.sub [(3, _), (28, _), (29, _), (31, _), (32, _), (33, _), (214, _), (217, _)] ⟨rfl, rfl, rfl, rfl, rfl, rfl, rfl, rfl, trivial⟩ ?_
                refine .cons rfl (r_extract_copy rfl rfl rfl rfl) <| .cons rfl (r_alloc rfl ok26 rfl) <| .cons rfl (r_store [] rfl rfl rfl rfl rfl rfl rfl rfl ok26 rfl rfl rfl rfl) <| .cons rfl (r_copy (.inr rfl) rfl rfl) <| .nil ?_
                refine AW.sub [(3, _), (28, _), (29, _), (31, _), (32, _), (33, _), (34, _), (35, _)] ⟨rfl, rfl, rfl, rfl, rfl, rfl, rfl, rfl, trivial⟩ ?_
                refine AW.seq ?_
                refine AW.seq (AW.reg hn hfx rfl ?_)
                refine .cons rfl (r_load_shared rfl rfl ok26) ?_
                obtain ⟨x99, hx99, h0⟩ := bindE h0
                refine .cons rfl (r_call rfl rfl rfl Try.func21 rfl rfl (W21 hx99) rfl) <| .cons rfl (r_moveTup (.inl rfl) rfl) <| .cons rfl (r_extract rfl rfl rfl) ?_
                refine RT.sub [(28, _), (29, _), (31, _), (32, _), (33, _), (34, _), (35, _), (219, _), (222, _)] ⟨rfl, rfl, rfl, rfl, rfl, rfl, rfl, rfl, rfl, trivial⟩ ?_
                refine .cons rfl (r_extract_copy rfl rfl rfl rfl) <| .cons rfl (r_alloc rfl ok26 rfl) <| .cons rfl (r_store [] rfl rfl rfl rfl rfl rfl rfl rfl ok26 rfl rfl rfl rfl) <| .cons rfl (r_copy (.inr rfl) rfl rfl) <| .nil ?_
                refine AW.sub [(28, _), (29, _), (31, _), (32, _), (33, _), (34, _), (35, _), (36, _), (37, _)] ⟨rfl, rfl, rfl, rfl, rfl, rfl, rfl, rfl, rfl, trivial⟩ ?_
                obtain ⟨z102, h1, h0⟩ := bindE h0
                refine AW.seq (AW.joinJ [(28, _), (31, _), (32, _), (33, _), (34, _), (35, _)] ⟨rfl, rfl, rfl, rfl, rfl, rfl, trivial⟩ [(236, .val .bool 0 z102)] ?_ ?_)
                ·refine AW.reg hn hfx rfl ?_
                 refine .cons rfl (r_copy (.inl rfl) rfl rfl) <| .cons rfl (r_copy (.inl rfl) rfl rfl) <| .cons rfl (r_cmpB rfl rfl rfl ok4 rfl rfl) ?_
                 refine .ifP (.inl rfl) rfl rfl h1 (fun h1 => ?_) (fun h1 => ?_)
                 ·refine RT.sub [(28, _), (29, _), (31, _), (32, _), (33, _), (34, _), (35, _), (36, _), (227, _)] ⟨rfl, rfl, rfl, rfl, rfl, rfl, rfl, rfl, rfl, trivial⟩ ?_
                  refine .pass (.inl ⟨_, _, _, rfl, rfl, rfl⟩) <| .pass (.inl ⟨_, _, _, rfl, rfl, rfl⟩) <| .cons rfl (r_pick_true rfl rfl rfl rfl) <| .cons rfl (r_copy (.inl rfl) rfl rfl) ?_
                  refine RT.sub [(28, _), (31, _), (32, _), (33, _), (34, _), (35, _), (36, _), (231, _)] ⟨rfl, rfl, rfl, rfl, rfl, rfl, rfl, rfl, trivial⟩ ?_
                  refine .pass (.inl ⟨_, _, _, rfl, rfl, rfl⟩) <| .pass (.inl ⟨_, _, _, rfl, rfl, rfl⟩) <| .pass (.inl ⟨_, _, _, rfl, rfl, rfl⟩) <| .pass (.inl ⟨_, _, _, rfl, rfl, rfl⟩) ?_
                  refine RT.sub [(28, _), (31, _), (32, _), (33, _), (34, _), (35, _), (231, _), (235, _)] ⟨rfl, rfl, rfl, rfl, rfl, rfl, rfl, rfl, trivial⟩ ?_
                  refine .cons rfl (r_pick_true rfl rfl rfl rfl) <| .nil ?_
                  obtain rfl := Option.some.inj h1
                  exact ⟨rfl, rfl, rfl, rfl, rfl, rfl, rfl, trivial⟩
                 ·refine RT.sub [(28, _), (29, _), (31, _), (32, _), (33, _), (34, _), (35, _), (36, _), (227, _)] ⟨rfl, rfl, rfl, rfl, rfl, rfl, rfl, rfl, rfl, trivial⟩ ?_
                  refine .cons (.inl ⟨_, _, _, rfl, rfl, rfl⟩) (r_copy (.inl rfl) rfl rfl) <| .cons (.inl ⟨_, _, _, rfl, rfl, rfl⟩) (r_not rfl rfl rfl) <| .cons rfl (r_pick_false rfl rfl rfl rfl) ?_
                  refine .ifP (.inl rfl) rfl rfl h1 (fun h1 => ?_) (fun h1 => ?_)
                  ·refine RT.sub [(28, _), (31, _), (32, _), (33, _), (34, _), (35, _), (36, _), (231, _)] ⟨rfl, rfl, rfl, rfl, rfl, rfl, rfl, rfl, trivial⟩ ?_
                   refine .pass (.inl ⟨_, _, _, rfl, rfl, rfl⟩) <| .pass (.inl ⟨_, _, _, rfl, rfl, rfl⟩) <| .pass (.inl ⟨_, _, _, rfl, rfl, rfl⟩) <| .pass (.inl ⟨_, _, _, rfl, rfl, rfl⟩) ?_
                   refine RT.sub [(28, _), (31, _), (32, _), (33, _), (34, _), (35, _), (231, _), (235, _)] ⟨rfl, rfl, rfl, rfl, rfl, rfl, rfl, rfl, trivial⟩ ?_
                   refine .cons rfl (r_pick_true rfl rfl rfl rfl) <| .nil ?_
                   obtain rfl := Option.some.inj h1
                   exact ⟨rfl, rfl, rfl, rfl, rfl, rfl, rfl, trivial⟩
                  ·refine RT.sub [(28, _), (31, _), (32, _), (33, _), (34, _), (35, _), (36, _), (231, _)] ⟨rfl, rfl, rfl, rfl, rfl, rfl, rfl, rfl, trivial⟩ ?_
                   refine .cons (.inl ⟨_, _, _, rfl, rfl, rfl⟩) (r_load_ref rfl rfl rfl rfl ok26) <| .cons (.inl ⟨_, _, _, rfl, rfl, rfl⟩) (r_load_ref rfl rfl rfl rfl ok26) ?_
                   obtain ⟨x103, hx103, h1⟩ := bindE h1
                   refine .cons (.inl ⟨_, _, _, rfl, rfl, rfl⟩) (r_call rfl rfl rfl Try.func22 rfl rfl (W22 hx103) rfl) <| .cons (.inl ⟨_, _, _, rfl, rfl, rfl⟩) (r_not rfl rfl rfl) ?_
                   refine RT.sub [(28, _), (31, _), (32, _), (33, _), (34, _), (35, _), (231, _), (235, _)] ⟨rfl, rfl, rfl, rfl, rfl, rfl, rfl, rfl, trivial⟩ ?_
                   refine .cons rfl (r_pick_false rfl rfl rfl rfl) <| .nil ?_
                   obtain rfl := Option.some.inj h1
                   exact ⟨rfl, rfl, rfl, rfl, rfl, rfl, rfl, trivial⟩
                ·intro l1 hl1
                 refine AW.weaken hl1.sub ?_
                 refine AW.ifP rfl h0 (fun h0 => ?_) (fun h0 => ?_)
                 ·refine AW.seq (AW.reg hn hfx rfl ?_)
                  refine .cons rfl (r_copy (.inr rfl) rfl rfl) <| .nil ?_
                  refine AW.sub [(2, _)] ⟨rfl, trivial⟩ ?_
                  refine AW.ret ?_
                  obtain rfl := Option.some.inj h0
                  exact ⟨_, .tmp rfl rfl .nil, .inl ⟨rfl, rfl⟩, trivial⟩
                 ·refine AW.skip ?_
                  refine AW.sub [(28, _), (31, _), (32, _), (33, _), (34, _), (35, _)] ⟨rfl, rfl, rfl, rfl, rfl, rfl, trivial⟩ ?_
                  obtain ⟨z108, h1, h0⟩ := bindE h0
                  refine AW.seq (AW.joinJ [] trivial [(2, .val .bool 0 z108)] ?_ ?_)
                  ·refine AW.reg hn hfx rfl ?_
                   refine .cons rfl (r_copy (.inl rfl) rfl rfl) ?_
                   refine .ifP (.inl rfl) rfl rfl h1 (fun h1 => ?_) (fun h1 => ?_)
                   ·refine .cons (.inl ⟨_, _, _, rfl, rfl, rfl⟩) (r_copy (.inl rfl) rfl rfl) <| .cons rfl (r_pick_true rfl rfl rfl rfl) ?_
                    refine RT.sub [(28, _), (32, _), (34, _), (35, _), (240, _)] ⟨rfl, rfl, rfl, rfl, rfl, trivial⟩ ?_
                    refine .ifP (.inl rfl) rfl rfl h1 (fun h1 => ?_) (fun h1 => ?_)
                    ·refine .cons (.inl ⟨_, _, _, rfl, rfl, rfl⟩) (r_copy (.inl rfl) rfl rfl) <| .cons rfl (r_pick_true rfl rfl rfl rfl) ?_
                     refine .ifP (.inl rfl) rfl rfl h1 (fun h1 => ?_) (fun h1 => ?_)
                     ·refine RT.sub [(28, _), (32, _), (34, _), (244, _)] ⟨rfl, rfl, rfl, rfl, trivial⟩ ?_
                      refine .cons (.inl ⟨_, _, _, rfl, rfl, rfl⟩) (r_load_ref rfl rfl rfl rfl ok26) <| .cons (.inl ⟨_, _, _, rfl, rfl, rfl⟩) (r_load_ref rfl rfl rfl rfl ok26) ?_
                      obtain ⟨x109, hx109, h1⟩ := bindE h1
                      refine .cons (.inl ⟨_, _, _, rfl, rfl, rfl⟩) (r_call rfl rfl rfl Try.func22 rfl rfl (W22 hx109) rfl) <| .cons rfl (r_pick_true rfl rfl rfl rfl) ?_
                      refine RT.sub [(28, _), (34, _), (248, _)] ⟨rfl, rfl, rfl, trivial⟩ ?_
                      refine .ifP (.inl rfl) rfl rfl h1 (fun h1 => ?_) (fun h1 => ?_)
                      ·refine .cons (.inl ⟨_, _, _, rfl, rfl, rfl⟩) (r_load_ref rfl rfl rfl rfl ok26) <| .cons (.inl ⟨_, _, _, rfl, rfl, rfl⟩) (r_load_ref rfl rfl rfl rfl ok26) ?_
                       obtain ⟨x110, hx110, h1⟩ := bindE h1
                       refine .cons (.inl ⟨_, _, _, rfl, rfl, rfl⟩) (r_call rfl rfl rfl Try.func22 rfl rfl (W22 hx110) rfl) ?_
                       refine RT.sub [(249, _), (252, _)] ⟨rfl, rfl, trivial⟩ ?_
                       refine .cons rfl (r_pick_true rfl rfl rfl rfl) <| .cons rfl (r_copy (.inr rfl) rfl rfl) <| .nil ?_
                       obtain rfl := Option.some.inj h1
                       exact ⟨rfl, trivial⟩
                      ·refine .pass (.inl ⟨_, _, _, rfl, rfl, rfl⟩) <| .pass (.inl ⟨_, _, _, rfl, rfl, rfl⟩) <| .pass (.inl ⟨_, _, _, rfl, rfl, rfl⟩) ?_
                       refine RT.sub [(249, _), (252, _)] ⟨rfl, rfl, trivial⟩ ?_
                       refine .cons rfl (r_pick_false rfl rfl rfl rfl) <| .cons rfl (r_copy (.inr rfl) rfl rfl) <| .nil ?_
                       obtain rfl := Option.some.inj h1
                       exact ⟨rfl, trivial⟩
                     ·refine RT.sub [(28, _), (32, _), (34, _), (244, _)] ⟨rfl, rfl, rfl, rfl, trivial⟩ ?_
                      refine .pass (.inl ⟨_, _, _, rfl, rfl, rfl⟩) <| .pass (.inl ⟨_, _, _, rfl, rfl, rfl⟩) <| .pass (.inl ⟨_, _, _, rfl, rfl, rfl⟩) <| .cons rfl (r_pick_false rfl rfl rfl rfl) ?_
                      refine RT.sub [(28, _), (34, _), (248, _)] ⟨rfl, rfl, rfl, trivial⟩ ?_
                      refine .cons rfl (r_copy (.inl rfl) rfl rfl) <| .pass (.inl ⟨_, _, _, rfl, rfl, rfl⟩) <| .pass (.inl ⟨_, _, _, rfl, rfl, rfl⟩) <| .pass (.inl ⟨_, _, _, rfl, rfl, rfl⟩) ?_
                      refine RT.sub [(249, _), (252, _)] ⟨rfl, rfl, trivial⟩ ?_
                      refine .cons rfl (r_pick_false rfl rfl rfl rfl) <| .cons rfl (r_copy (.inr rfl) rfl rfl) <| .nil ?_
                      obtain rfl := Option.some.inj h1
                      exact ⟨rfl, trivial⟩
                    ·refine .pass (.inl ⟨_, _, _, rfl, rfl, rfl⟩) <| .cons rfl (r_pick_false rfl rfl rfl rfl) <| .cons rfl (r_copy (.inl rfl) rfl rfl) ?_
                     refine RT.sub [(28, _), (32, _), (34, _), (244, _)] ⟨rfl, rfl, rfl, rfl, trivial⟩ ?_
                     refine .pass (.inl ⟨_, _, _, rfl, rfl, rfl⟩) <| .pass (.inl ⟨_, _, _, rfl, rfl, rfl⟩) <| .pass (.inl ⟨_, _, _, rfl, rfl, rfl⟩) <| .cons rfl (r_pick_false rfl rfl rfl rfl) ?_
                     refine RT.sub [(28, _), (34, _), (248, _)] ⟨rfl, rfl, rfl, trivial⟩ ?_
                     refine .cons rfl (r_copy (.inl rfl) rfl rfl) <| .pass (.inl ⟨_, _, _, rfl, rfl, rfl⟩) <| .pass (.inl ⟨_, _, _, rfl, rfl, rfl⟩) <| .pass (.inl ⟨_, _, _, rfl, rfl, rfl⟩) ?_
                     refine RT.sub [(249, _), (252, _)] ⟨rfl, rfl, trivial⟩ ?_
                     refine .cons rfl (r_pick_false rfl rfl rfl rfl) <| .cons rfl (r_copy (.inr rfl) rfl rfl) <| .nil ?_
                     obtain rfl := Option.some.inj h1
                     exact ⟨rfl, trivial⟩
                   ·refine .pass (.inl ⟨_, _, _, rfl, rfl, rfl⟩) <| .cons rfl (r_pick_false rfl rfl rfl rfl) ?_
                    refine RT.sub [(28, _), (32, _), (34, _), (35, _), (240, _)] ⟨rfl, rfl, rfl, rfl, rfl, trivial⟩ ?_
                    refine .cons rfl (r_copy (.inl rfl) rfl rfl) <| .pass (.inl ⟨_, _, _, rfl, rfl, rfl⟩) <| .cons rfl (r_pick_false rfl rfl rfl rfl) <| .cons rfl (r_copy (.inl rfl) rfl rfl) ?_
                    refine RT.sub [(28, _), (32, _), (34, _), (244, _)] ⟨rfl, rfl, rfl, rfl, trivial⟩ ?_
                    refine .pass (.inl ⟨_, _, _, rfl, rfl, rfl⟩) <| .pass (.inl ⟨_, _, _, rfl, rfl, rfl⟩) <| .pass (.inl ⟨_, _, _, rfl, rfl, rfl⟩) <| .cons rfl (r_pick_false rfl rfl rfl rfl) ?_
                    refine RT.sub [(28, _), (34, _), (248, _)] ⟨rfl, rfl, rfl, trivial⟩ ?_
                    refine .cons rfl (r_copy (.inl rfl) rfl rfl) <| .pass (.inl ⟨_, _, _, rfl, rfl, rfl⟩) <| .pass (.inl ⟨_, _, _, rfl, rfl, rfl⟩) <| .pass (.inl ⟨_, _, _, rfl, rfl, rfl⟩) ?_
                    refine RT.sub [(249, _), (252, _)] ⟨rfl, rfl, trivial⟩ ?_
                    refine .cons rfl (r_pick_false rfl rfl rfl rfl) <| .cons rfl (r_copy (.inr rfl) rfl rfl) <| .nil ?_
                    obtain rfl := Option.some.inj h1
                    exact ⟨rfl, trivial⟩
                  ·intro l1 hl1
                   refine AW.weaken hl1.sub ?_
                   refine AW.ret ?_
                   obtain rfl := Option.some.inj h0
                   exact ⟨_, .tmp rfl rfl .nil, .inl ⟨rfl, rfl⟩, trivial⟩

end Go.Proofs.Ytoaajjhcdbbfdaa
