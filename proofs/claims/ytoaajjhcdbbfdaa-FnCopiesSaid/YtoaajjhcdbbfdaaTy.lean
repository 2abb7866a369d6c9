/- The types of the program, as they are read. -/
import Derived.Test.YtoaajjhcdbbfdaaFwWb
import Derived.Test.YtoaajjhcdbbfdaaRows
set_option linter.unusedSimpArgs false
set_option linter.unnecessarySimpa false
set_option linter.unusedVariables false
namespace Go.Proofs.Ytoaajjhcdbbfdaa
open Go.Abs
abbrev tInt : Ty := .int .i64
theorem ok1 : TyOK Try.prog 1 .raw := tyOK_fn (by kernel_rfl) (by kernel_rfl)
theorem ok3 : TyOK Try.prog 3 tInt := tyOK_int (by kernel_rfl) (by kernel_rfl)
theorem ok4 : TyOK Try.prog 4 .bool := tyOK_bool (by kernel_rfl) (by kernel_rfl)
theorem ok5 : TyOK Try.prog 5 (.int .u8) := tyOK_int (by kernel_rfl) (by kernel_rfl)
theorem ok9 : TyOK Try.prog 9 .str := tyOK_str (by kernel_rfl) (by kernel_rfl)
abbrev ty22 : Ty := .slc (.int .u8)
theorem ok22 : TyOK Try.prog 22 ty22 := tyOK_slc (z := .int .u8 0) (by_ := 1) (E := 5) (by kernel_rfl) (by kernel_rfl) (by kernel_rfl) rfl rfl (fun _ => rfl)
abbrev ty38 : Ty := .slc tInt
theorem ok38 : TyOK Try.prog 38 ty38 := tyOK_slc (z := .int .i64 0) (by_ := 8) (E := 3) (by kernel_rfl) (by kernel_rfl) (by kernel_rfl) rfl rfl (fun _ => rfl)
abbrev ty72 : Ty := (.prod tInt (.prod ty38 .unit))
theorem ok72 : TyOK Try.prog 72 ty72 := tyOK_struct (cs := #[.int .i64 0, .slice none 0 0]) (pl := [(0, 1), (1, 1)]) (by kernel_rfl) (fun _ => rfl) (by kernel_rfl) rfl
abbrev ty24 : Ty := .slc ty72
theorem ok24 : TyOK Try.prog 24 ty24 := tyOK_slc (z := .agg #[.int .i64 0, .slice none 0 0]) (by_ := 32) (E := 72) (by kernel_rfl) (by kernel_rfl) (by kernel_rfl) rfl rfl (fun _ => rfl)
abbrev ty26 : Ty := (.prod tInt (.prod ty24 .unit))
theorem ok26 : TyOK Try.prog 26 ty26 := tyOK_struct (cs := #[.int .i64 0, .slice none 0 0]) (pl := [(0, 1), (1, 1)]) (by kernel_rfl) (fun _ => rfl) (by kernel_rfl) rfl
abbrev ty31 : Ty := .slc ty38
theorem ok31 : TyOK Try.prog 31 ty31 := tyOK_slc (z := .slice none 0 0) (by_ := 24) (E := 38) (by kernel_rfl) (by kernel_rfl) (by kernel_rfl) rfl rfl (fun _ => rfl)
theorem ok46 : TyOK Try.prog 46 (.int .u64) := tyOK_int (by kernel_rfl) (by kernel_rfl)
abbrev ty48 : Ty := (.prod ty22 (.prod tInt (.prod (.int .u64) .unit)))
theorem ok48 : TyOK Try.prog 48 ty48 := tyOK_struct (cs := #[.slice none 0 0, .int .i64 0, .int .u64 0]) (pl := [(0, 1), (1, 1), (2, 1)]) (by kernel_rfl) (fun _ => rfl) (by kernel_rfl) rfl
theorem ok61 : TyOK Try.prog 61 .raw := tyOK_fn (by kernel_rfl) (by kernel_rfl)
abbrev ty74 : Ty := .slc .bool
theorem ok74 : TyOK Try.prog 74 ty74 := tyOK_slc (z := .bool false) (by_ := 1) (E := 4) (by kernel_rfl) (by kernel_rfl) (by kernel_rfl) rfl rfl (fun _ => rfl)
theorem ok79 : TyOK Try.prog 79 .raw := tyOK_fn (by kernel_rfl) (by kernel_rfl)
abbrev ty91 : Ty := (.prod ty26 (.prod ty26 (.prod .bool (.prod tInt (.prod .raw .unit)))))
theorem ok91 : TyOK Try.prog 91 ty91 := tyOK_struct (cs := #[.int .i64 0, .slice none 0 0, .int .i64 0, .slice none 0 0, .bool false, .int .i64 0, .nilFunc]) (pl := [(0, 2), (2, 2), (4, 1), (5, 1), (6, 1)]) (by kernel_rfl) (fun _ => rfl) (by kernel_rfl) rfl
abbrev ty94 : Ty := (.prod ty26 (.prod ty26 (.prod .bool (.prod .bool (.prod tInt (.prod tInt (.prod ty31 .unit)))))))
theorem ok94 : TyOK Try.prog 94 ty94 := tyOK_struct (cs := #[.int .i64 0, .slice none 0 0, .int .i64 0, .slice none 0 0, .bool false, .bool false, .int .i64 0, .int .i64 0, .slice none 0 0]) (pl := [(0, 2), (2, 2), (4, 1), (5, 1), (6, 1), (7, 1), (8, 1)]) (by kernel_rfl) (fun _ => rfl) (by kernel_rfl) rfl
theorem ok38may : TyOK Try.prog 38 (.may ty38) := tyOK_may (E := 3) (by kernel_rfl) (by kernel_rfl)
theorem ok38opt : TyOK Try.prog 38 (.opt ty38) := tyOK_opt (E := 3) (by kernel_rfl) (by kernel_rfl)
theorem ok26h0 : TyOK Try.prog 26 (.prod tInt (.prod .hole .unit)) := tyOK_struct (cs := #[.int .i64 0, .slice none 0 0]) (pl := [(0, 1), (1, 1)]) (by kernel_rfl) (fun h => nomatch h) (by kernel_rfl) rfl
theorem ok72h0 : TyOK Try.prog 72 (.prod tInt (.prod .hole .unit)) := tyOK_struct (cs := #[.int .i64 0, .slice none 0 0]) (pl := [(0, 1), (1, 1)]) (by kernel_rfl) (fun h => nomatch h) (by kernel_rfl) rfl
theorem ok26h1 : TyOK Try.prog 26 (.prod tInt (.prod (.slc (.prod tInt (.prod (.may ty38) .unit))) .unit)) := tyOK_struct (cs := #[.int .i64 0, .slice none 0 0]) (pl := [(0, 1), (1, 1)]) (by kernel_rfl) (fun _ => rfl) (by kernel_rfl) rfl
theorem ok24h0 : TyOK Try.prog 24 (.slc (.prod tInt (.prod (.may ty38) .unit))) := tyOK_slc (z := .agg #[.int .i64 0, .slice none 0 0]) (by_ := 32) (E := 72) (by kernel_rfl) (by kernel_rfl) (by kernel_rfl) rfl rfl (fun _ => rfl)
theorem ok72h1 : TyOK Try.prog 72 (.prod tInt (.prod (.may ty38) .unit)) := tyOK_struct (cs := #[.int .i64 0, .slice none 0 0]) (pl := [(0, 1), (1, 1)]) (by kernel_rfl) (fun _ => rfl) (by kernel_rfl) rfl
theorem ok94h0 : TyOK Try.prog 94 (.prod (.prod tInt (.prod (.shr ty72) .unit)) (.prod (.prod tInt (.prod (.shr ty72) .unit)) (.prod .bool (.prod .bool (.prod tInt (.prod tInt (.prod ty31 .unit))))))) := tyOK_struct (cs := #[.int .i64 0, .slice none 0 0, .int .i64 0, .slice none 0 0, .bool false, .bool false, .int .i64 0, .int .i64 0, .slice none 0 0]) (pl := [(0, 2), (2, 2), (4, 1), (5, 1), (6, 1), (7, 1), (8, 1)]) (by kernel_rfl) (fun _ => rfl) (by kernel_rfl) rfl
theorem ok26h2 : TyOK Try.prog 26 (.prod tInt (.prod (.shr ty72) .unit)) := tyOK_struct (cs := #[.int .i64 0, .slice none 0 0]) (pl := [(0, 1), (1, 1)]) (by kernel_rfl) (fun _ => rfl) (by kernel_rfl) rfl
theorem ok94h1 : TyOK Try.prog 94 (.prod (.prod tInt (.prod (.shr ty72) .unit)) (.prod (.prod tInt (.prod (.shr ty72) .unit)) (.prod .bool (.prod .bool (.prod tInt (.prod tInt (.prod .hole .unit))))))) := tyOK_struct (cs := #[.int .i64 0, .slice none 0 0, .int .i64 0, .slice none 0 0, .bool false, .bool false, .int .i64 0, .int .i64 0, .slice none 0 0]) (pl := [(0, 2), (2, 2), (4, 1), (5, 1), (6, 1), (7, 1), (8, 1)]) (by kernel_rfl) (fun h => nomatch h) (by kernel_rfl) rfl
end Go.Proofs.Ytoaajjhcdbbfdaa
