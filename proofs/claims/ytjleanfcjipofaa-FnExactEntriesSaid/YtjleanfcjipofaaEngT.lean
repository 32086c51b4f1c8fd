/- The types of this seat's program, as far as the engine asks, and what its functions' loops keep. No condition. -/
import Derived.Test.YtjleanfcjipofaaEngP
import Derived.Test.YtjleanfcjipofaaChecked
set_option linter.all false
namespace Go.Proofs.Ytjleanfcjipofaa.Eng
open Go Go.RowKit Go.Proofs
set_option maxRecDepth 100000
@[simp] theorem ti_2 : ti Try.prog 2 = some ⟨(Try.prog.underlying 2).getD .bool, 1, 8, Value.int IntKind.i64 0⟩ := by kernel_rfl
noncomputable def inf_2 : TypeInfo := (Try.prog.info? 2).getD default
@[simp] theorem info_2 : Try.prog.info? 2 = some inf_2 := by kernel_rfl
@[simp] theorem infs_2 : inf_2.size = 1 := by kernel_rfl
@[simp] theorem ct_2 : cellTs Try.prog 8 2 = some [none] := by kernel_rfl
attribute [simp] Try.underlying2
@[simp] theorem ti_3 : ti Try.prog 3 = some ⟨(Try.prog.underlying 3).getD .bool, 1, 8, Value.int IntKind.i64 0⟩ := by kernel_rfl
noncomputable def inf_3 : TypeInfo := (Try.prog.info? 3).getD default
@[simp] theorem info_3 : Try.prog.info? 3 = some inf_3 := by kernel_rfl
@[simp] theorem infs_3 : inf_3.size = 1 := by kernel_rfl
@[simp] theorem ct_3 : cellTs Try.prog 8 3 = some [none] := by kernel_rfl
attribute [simp] Try.underlying3
@[simp] theorem ti_4 : ti Try.prog 4 = some ⟨(Try.prog.underlying 4).getD .bool, 1, 1, Value.bool false⟩ := by kernel_rfl
noncomputable def inf_4 : TypeInfo := (Try.prog.info? 4).getD default
@[simp] theorem info_4 : Try.prog.info? 4 = some inf_4 := by kernel_rfl
@[simp] theorem infs_4 : inf_4.size = 1 := by kernel_rfl
@[simp] theorem ct_4 : cellTs Try.prog 8 4 = some [none] := by kernel_rfl
attribute [simp] Try.underlying4
@[simp] theorem ti_5 : ti Try.prog 5 = some ⟨(Try.prog.underlying 5).getD .bool, 1, 1, Value.int IntKind.u8 0⟩ := by kernel_rfl
noncomputable def inf_5 : TypeInfo := (Try.prog.info? 5).getD default
@[simp] theorem info_5 : Try.prog.info? 5 = some inf_5 := by kernel_rfl
@[simp] theorem infs_5 : inf_5.size = 1 := by kernel_rfl
@[simp] theorem ct_5 : cellTs Try.prog 8 5 = some [none] := by kernel_rfl
attribute [simp] Try.underlying5
@[simp] theorem ti_9 : ti Try.prog 9 = some ⟨(Try.prog.underlying 9).getD .bool, 1, 16, Value.string ⟨#[]⟩⟩ := by kernel_rfl
noncomputable def inf_9 : TypeInfo := (Try.prog.info? 9).getD default
@[simp] theorem info_9 : Try.prog.info? 9 = some inf_9 := by kernel_rfl
@[simp] theorem infs_9 : inf_9.size = 1 := by kernel_rfl
@[simp] theorem ct_9 : cellTs Try.prog 8 9 = some [none] := by kernel_rfl
attribute [simp] Try.underlying9
@[simp] theorem ti_12 : ti Try.prog 12 = some ⟨(Try.prog.underlying 12).getD .bool, 1, 8, Value.int IntKind.u64 0⟩ := by kernel_rfl
noncomputable def inf_12 : TypeInfo := (Try.prog.info? 12).getD default
@[simp] theorem info_12 : Try.prog.info? 12 = some inf_12 := by kernel_rfl
@[simp] theorem infs_12 : inf_12.size = 1 := by kernel_rfl
@[simp] theorem ct_12 : cellTs Try.prog 8 12 = some [none] := by kernel_rfl
attribute [simp] Try.underlying12
@[simp] theorem ti_13 : ti Try.prog 13 = some ⟨(Try.prog.underlying 13).getD .bool, 2, 24, Value.agg #[Value.string ⟨#[]⟩, Value.int IntKind.u64 0]⟩ := by kernel_rfl
noncomputable def inf_13 : TypeInfo := (Try.prog.info? 13).getD default
@[simp] theorem info_13 : Try.prog.info? 13 = some inf_13 := by kernel_rfl
@[simp] theorem infs_13 : inf_13.size = 2 := by kernel_rfl
@[simp] theorem pl_13 : placesOf Try.prog 13 = some [(0, 1), (1, 1)] := by kernel_rfl
@[simp] theorem ct_13 : cellTs Try.prog 8 13 = some [none, none] := by kernel_rfl
attribute [simp] Try.underlying13
@[simp] theorem ti_19 : ti Try.prog 19 = some ⟨(Try.prog.underlying 19).getD .bool, 1, 8, Value.agg #[Value.pointer none]⟩ := by kernel_rfl
noncomputable def inf_19 : TypeInfo := (Try.prog.info? 19).getD default
@[simp] theorem info_19 : Try.prog.info? 19 = some inf_19 := by kernel_rfl
@[simp] theorem infs_19 : inf_19.size = 1 := by kernel_rfl
@[simp] theorem pl_19 : placesOf Try.prog 19 = some [(0, 1)] := by kernel_rfl
attribute [simp] Try.underlying19
@[simp] theorem ti_21 : ti Try.prog 21 = some ⟨(Try.prog.underlying 21).getD .bool, 1, 4, Value.int IntKind.i32 0⟩ := by kernel_rfl
noncomputable def inf_21 : TypeInfo := (Try.prog.info? 21).getD default
@[simp] theorem info_21 : Try.prog.info? 21 = some inf_21 := by kernel_rfl
@[simp] theorem infs_21 : inf_21.size = 1 := by kernel_rfl
@[simp] theorem ct_21 : cellTs Try.prog 8 21 = some [none] := by kernel_rfl
attribute [simp] Try.underlying21
@[simp] theorem ti_22 : ti Try.prog 22 = some ⟨(Try.prog.underlying 22).getD .bool, 1, 24, Value.slice none 0 0⟩ := by kernel_rfl
noncomputable def inf_22 : TypeInfo := (Try.prog.info? 22).getD default
@[simp] theorem info_22 : Try.prog.info? 22 = some inf_22 := by kernel_rfl
@[simp] theorem infs_22 : inf_22.size = 1 := by kernel_rfl
@[simp] theorem ct_22 : cellTs Try.prog 8 22 = some [some 48] := by kernel_rfl
attribute [simp] Try.underlying22
@[simp] theorem ti_25 : ti Try.prog 25 = some ⟨(Try.prog.underlying 25).getD .bool, 1, 24, Value.slice none 0 0⟩ := by kernel_rfl
noncomputable def inf_25 : TypeInfo := (Try.prog.info? 25).getD default
@[simp] theorem info_25 : Try.prog.info? 25 = some inf_25 := by kernel_rfl
@[simp] theorem infs_25 : inf_25.size = 1 := by kernel_rfl
@[simp] theorem ct_25 : cellTs Try.prog 8 25 = some [some 53] := by kernel_rfl
attribute [simp] Try.underlying25
@[simp] theorem ti_29 : ti Try.prog 29 = some ⟨(Try.prog.underlying 29).getD .bool, 1, 24, Value.slice none 0 0⟩ := by kernel_rfl
noncomputable def inf_29 : TypeInfo := (Try.prog.info? 29).getD default
@[simp] theorem info_29 : Try.prog.info? 29 = some inf_29 := by kernel_rfl
@[simp] theorem infs_29 : inf_29.size = 1 := by kernel_rfl
@[simp] theorem ct_29 : cellTs Try.prog 8 29 = some [some 60] := by kernel_rfl
attribute [simp] Try.underlying29
@[simp] theorem ti_31 : ti Try.prog 31 = some ⟨(Try.prog.underlying 31).getD .bool, 1, 24, Value.slice none 0 0⟩ := by kernel_rfl
noncomputable def inf_31 : TypeInfo := (Try.prog.info? 31).getD default
@[simp] theorem info_31 : Try.prog.info? 31 = some inf_31 := by kernel_rfl
@[simp] theorem infs_31 : inf_31.size = 1 := by kernel_rfl
@[simp] theorem ct_31 : cellTs Try.prog 8 31 = some [some 62] := by kernel_rfl
attribute [simp] Try.underlying31
@[simp] theorem ti_34 : ti Try.prog 34 = some ⟨(Try.prog.underlying 34).getD .bool, 1, 24, Value.slice none 0 0⟩ := by kernel_rfl
noncomputable def inf_34 : TypeInfo := (Try.prog.info? 34).getD default
@[simp] theorem info_34 : Try.prog.info? 34 = some inf_34 := by kernel_rfl
@[simp] theorem infs_34 : inf_34.size = 1 := by kernel_rfl
@[simp] theorem ct_34 : cellTs Try.prog 8 34 = some [some 64] := by kernel_rfl
attribute [simp] Try.underlying34
@[simp] theorem ti_42 : ti Try.prog 42 = some ⟨(Try.prog.underlying 42).getD .bool, 1, 24, Value.slice none 0 0⟩ := by kernel_rfl
noncomputable def inf_42 : TypeInfo := (Try.prog.info? 42).getD default
@[simp] theorem info_42 : Try.prog.info? 42 = some inf_42 := by kernel_rfl
@[simp] theorem infs_42 : inf_42.size = 1 := by kernel_rfl
@[simp] theorem ct_42 : cellTs Try.prog 8 42 = some [some 3] := by kernel_rfl
attribute [simp] Try.underlying42
@[simp] theorem ti_43 : ti Try.prog 43 = some ⟨(Try.prog.underlying 43).getD .bool, 9, 112, Value.agg #[Value.int IntKind.i64 0, Value.int IntKind.i64 0, Value.int IntKind.i64 0, Value.int IntKind.i64 0, Value.int IntKind.i64 0, Value.slice none 0 0, Value.string ⟨#[]⟩, Value.slice none 0 0, Value.int IntKind.i64 0]⟩ := by kernel_rfl
noncomputable def inf_43 : TypeInfo := (Try.prog.info? 43).getD default
@[simp] theorem info_43 : Try.prog.info? 43 = some inf_43 := by kernel_rfl
@[simp] theorem infs_43 : inf_43.size = 9 := by kernel_rfl
@[simp] theorem pl_43 : placesOf Try.prog 43 = some [(0, 1), (1, 1), (2, 1), (3, 1), (4, 1), (5, 1), (6, 1), (7, 1), (8, 1)] := by kernel_rfl
@[simp] theorem ct_43 : cellTs Try.prog 8 43 = some [none, none, none, none, none, some 3, none, some 3, none] := by kernel_rfl
attribute [simp] Try.underlying43
@[simp] theorem ti_44 : ti Try.prog 44 = some ⟨(Try.prog.underlying 44).getD .bool, 9, 112, Value.agg #[Value.int IntKind.i64 0, Value.int IntKind.i64 0, Value.int IntKind.i64 0, Value.int IntKind.i64 0, Value.int IntKind.i64 0, Value.slice none 0 0, Value.string ⟨#[]⟩, Value.slice none 0 0, Value.int IntKind.i64 0]⟩ := by kernel_rfl
noncomputable def inf_44 : TypeInfo := (Try.prog.info? 44).getD default
@[simp] theorem info_44 : Try.prog.info? 44 = some inf_44 := by kernel_rfl
@[simp] theorem infs_44 : inf_44.size = 9 := by kernel_rfl
@[simp] theorem pl_44 : placesOf Try.prog 44 = some [(0, 1), (1, 1), (2, 1), (3, 1), (4, 1), (5, 1), (6, 1), (7, 1), (8, 1)] := by kernel_rfl
@[simp] theorem ct_44 : cellTs Try.prog 8 44 = some [none, none, none, none, none, some 3, none, some 3, none] := by kernel_rfl
attribute [simp] Try.underlying44
@[simp] theorem ti_45 : ti Try.prog 45 = some ⟨(Try.prog.underlying 45).getD .bool, 14, 152, Value.agg #[Value.int IntKind.i64 0, Value.int IntKind.i64 0, Value.int IntKind.i64 0, Value.int IntKind.i64 0, Value.int IntKind.i64 0, Value.int IntKind.i64 0, Value.int IntKind.i64 0, Value.int IntKind.i64 0, Value.slice none 0 0, Value.string ⟨#[]⟩, Value.slice none 0 0, Value.int IntKind.i64 0, Value.int IntKind.i64 0, Value.int IntKind.i64 0]⟩ := by kernel_rfl
noncomputable def inf_45 : TypeInfo := (Try.prog.info? 45).getD default
@[simp] theorem info_45 : Try.prog.info? 45 = some inf_45 := by kernel_rfl
@[simp] theorem infs_45 : inf_45.size = 14 := by kernel_rfl
@[simp] theorem pl_45 : placesOf Try.prog 45 = some [(0, 1), (1, 1), (2, 1), (3, 9), (12, 1), (13, 1)] := by kernel_rfl
@[simp] theorem ct_45 : cellTs Try.prog 8 45 = some [none, none, none, none, none, none, none, none, some 3, none, some 3, none, none, none] := by kernel_rfl
attribute [simp] Try.underlying45
@[simp] theorem ti_46 : ti Try.prog 46 = some ⟨(Try.prog.underlying 46).getD .bool, 14, 152, Value.agg #[Value.int IntKind.i64 0, Value.int IntKind.i64 0, Value.int IntKind.i64 0, Value.int IntKind.i64 0, Value.int IntKind.i64 0, Value.int IntKind.i64 0, Value.int IntKind.i64 0, Value.int IntKind.i64 0, Value.slice none 0 0, Value.string ⟨#[]⟩, Value.slice none 0 0, Value.int IntKind.i64 0, Value.int IntKind.i64 0, Value.int IntKind.i64 0]⟩ := by kernel_rfl
noncomputable def inf_46 : TypeInfo := (Try.prog.info? 46).getD default
@[simp] theorem info_46 : Try.prog.info? 46 = some inf_46 := by kernel_rfl
@[simp] theorem infs_46 : inf_46.size = 14 := by kernel_rfl
@[simp] theorem pl_46 : placesOf Try.prog 46 = some [(0, 1), (1, 1), (2, 1), (3, 9), (12, 1), (13, 1)] := by kernel_rfl
@[simp] theorem ct_46 : cellTs Try.prog 8 46 = some [none, none, none, none, none, none, none, none, some 3, none, some 3, none, none, none] := by kernel_rfl
attribute [simp] Try.underlying46
@[simp] theorem ti_47 : ti Try.prog 47 = some ⟨(Try.prog.underlying 47).getD .bool, 18, 192, Value.agg #[Value.int IntKind.i64 0, Value.int IntKind.i64 0, Value.int IntKind.i64 0, Value.int IntKind.i64 0, Value.int IntKind.i64 0, Value.int IntKind.i64 0, Value.int IntKind.i64 0, Value.int IntKind.i64 0, Value.int IntKind.i64 0, Value.int IntKind.i64 0, Value.int IntKind.i64 0, Value.slice none 0 0, Value.string ⟨#[]⟩, Value.slice none 0 0, Value.int IntKind.i64 0, Value.int IntKind.i64 0, Value.int IntKind.i64 0, Value.string ⟨#[]⟩]⟩ := by kernel_rfl
noncomputable def inf_47 : TypeInfo := (Try.prog.info? 47).getD default
@[simp] theorem info_47 : Try.prog.info? 47 = some inf_47 := by kernel_rfl
@[simp] theorem infs_47 : inf_47.size = 18 := by kernel_rfl
@[simp] theorem pl_47 : placesOf Try.prog 47 = some [(0, 1), (1, 1), (2, 1), (3, 14), (17, 1)] := by kernel_rfl
@[simp] theorem ct_47 : cellTs Try.prog 8 47 = some [none, none, none, none, none, none, none, none, none, none, none, some 3, none, some 3, none, none, none, none] := by kernel_rfl
attribute [simp] Try.underlying47
@[simp] theorem ti_48 : ti Try.prog 48 = some ⟨(Try.prog.underlying 48).getD .bool, 18, 192, Value.agg #[Value.int IntKind.i64 0, Value.int IntKind.i64 0, Value.int IntKind.i64 0, Value.int IntKind.i64 0, Value.int IntKind.i64 0, Value.int IntKind.i64 0, Value.int IntKind.i64 0, Value.int IntKind.i64 0, Value.int IntKind.i64 0, Value.int IntKind.i64 0, Value.int IntKind.i64 0, Value.slice none 0 0, Value.string ⟨#[]⟩, Value.slice none 0 0, Value.int IntKind.i64 0, Value.int IntKind.i64 0, Value.int IntKind.i64 0, Value.string ⟨#[]⟩]⟩ := by kernel_rfl
noncomputable def inf_48 : TypeInfo := (Try.prog.info? 48).getD default
@[simp] theorem info_48 : Try.prog.info? 48 = some inf_48 := by kernel_rfl
@[simp] theorem infs_48 : inf_48.size = 18 := by kernel_rfl
@[simp] theorem pl_48 : placesOf Try.prog 48 = some [(0, 1), (1, 1), (2, 1), (3, 14), (17, 1)] := by kernel_rfl
@[simp] theorem ct_48 : cellTs Try.prog 8 48 = some [none, none, none, none, none, none, none, none, none, none, none, some 3, none, some 3, none, none, none, none] := by kernel_rfl
attribute [simp] Try.underlying48
@[simp] theorem ti_49 : ti Try.prog 49 = some ⟨(Try.prog.underlying 49).getD .bool, 9, 112, Value.agg #[Value.int IntKind.i64 0, Value.int IntKind.i64 0, Value.int IntKind.i64 0, Value.int IntKind.i64 0, Value.int IntKind.i64 0, Value.slice none 0 0, Value.string ⟨#[]⟩, Value.slice none 0 0, Value.int IntKind.i64 0]⟩ := by kernel_rfl
noncomputable def inf_49 : TypeInfo := (Try.prog.info? 49).getD default
@[simp] theorem info_49 : Try.prog.info? 49 = some inf_49 := by kernel_rfl
@[simp] theorem infs_49 : inf_49.size = 9 := by kernel_rfl
@[simp] theorem pl_49 : placesOf Try.prog 49 = some [(0, 1), (1, 1), (2, 1), (3, 1), (4, 1), (5, 1), (6, 1), (7, 1), (8, 1)] := by kernel_rfl
@[simp] theorem ct_49 : cellTs Try.prog 8 49 = some [none, none, none, none, none, some 3, none, some 3, none] := by kernel_rfl
attribute [simp] Try.underlying49
@[simp] theorem ti_50 : ti Try.prog 50 = some ⟨(Try.prog.underlying 50).getD .bool, 14, 152, Value.agg #[Value.int IntKind.i64 0, Value.int IntKind.i64 0, Value.int IntKind.i64 0, Value.int IntKind.i64 0, Value.int IntKind.i64 0, Value.int IntKind.i64 0, Value.int IntKind.i64 0, Value.int IntKind.i64 0, Value.slice none 0 0, Value.string ⟨#[]⟩, Value.slice none 0 0, Value.int IntKind.i64 0, Value.int IntKind.i64 0, Value.int IntKind.i64 0]⟩ := by kernel_rfl
noncomputable def inf_50 : TypeInfo := (Try.prog.info? 50).getD default
@[simp] theorem info_50 : Try.prog.info? 50 = some inf_50 := by kernel_rfl
@[simp] theorem infs_50 : inf_50.size = 14 := by kernel_rfl
@[simp] theorem pl_50 : placesOf Try.prog 50 = some [(0, 1), (1, 1), (2, 1), (3, 9), (12, 1), (13, 1)] := by kernel_rfl
@[simp] theorem ct_50 : cellTs Try.prog 8 50 = some [none, none, none, none, none, none, none, none, some 3, none, some 3, none, none, none] := by kernel_rfl
attribute [simp] Try.underlying50
@[simp] theorem ti_51 : ti Try.prog 51 = some ⟨(Try.prog.underlying 51).getD .bool, 14, 152, Value.agg #[Value.int IntKind.i64 0, Value.int IntKind.i64 0, Value.int IntKind.i64 0, Value.int IntKind.i64 0, Value.int IntKind.i64 0, Value.int IntKind.i64 0, Value.int IntKind.i64 0, Value.int IntKind.i64 0, Value.slice none 0 0, Value.string ⟨#[]⟩, Value.slice none 0 0, Value.int IntKind.i64 0, Value.int IntKind.i64 0, Value.int IntKind.i64 0]⟩ := by kernel_rfl
noncomputable def inf_51 : TypeInfo := (Try.prog.info? 51).getD default
@[simp] theorem info_51 : Try.prog.info? 51 = some inf_51 := by kernel_rfl
@[simp] theorem infs_51 : inf_51.size = 14 := by kernel_rfl
@[simp] theorem pl_51 : placesOf Try.prog 51 = some [(0, 1), (1, 1), (2, 1), (3, 9), (12, 1), (13, 1)] := by kernel_rfl
@[simp] theorem ct_51 : cellTs Try.prog 8 51 = some [none, none, none, none, none, none, none, none, some 3, none, some 3, none, none, none] := by kernel_rfl
attribute [simp] Try.underlying51
@[simp] theorem ti_52 : ti Try.prog 52 = some ⟨(Try.prog.underlying 52).getD .bool, 18, 192, Value.agg #[Value.int IntKind.i64 0, Value.int IntKind.i64 0, Value.int IntKind.i64 0, Value.int IntKind.i64 0, Value.int IntKind.i64 0, Value.int IntKind.i64 0, Value.int IntKind.i64 0, Value.int IntKind.i64 0, Value.int IntKind.i64 0, Value.int IntKind.i64 0, Value.int IntKind.i64 0, Value.slice none 0 0, Value.string ⟨#[]⟩, Value.slice none 0 0, Value.int IntKind.i64 0, Value.int IntKind.i64 0, Value.int IntKind.i64 0, Value.string ⟨#[]⟩]⟩ := by kernel_rfl
noncomputable def inf_52 : TypeInfo := (Try.prog.info? 52).getD default
@[simp] theorem info_52 : Try.prog.info? 52 = some inf_52 := by kernel_rfl
@[simp] theorem infs_52 : inf_52.size = 18 := by kernel_rfl
@[simp] theorem pl_52 : placesOf Try.prog 52 = some [(0, 1), (1, 1), (2, 1), (3, 14), (17, 1)] := by kernel_rfl
@[simp] theorem ct_52 : cellTs Try.prog 8 52 = some [none, none, none, none, none, none, none, none, none, none, none, some 3, none, some 3, none, none, none, none] := by kernel_rfl
attribute [simp] Try.underlying52
@[simp] theorem ti_53 : ti Try.prog 53 = some ⟨(Try.prog.underlying 53).getD .bool, 18, 192, Value.agg #[Value.int IntKind.i64 0, Value.int IntKind.i64 0, Value.int IntKind.i64 0, Value.int IntKind.i64 0, Value.int IntKind.i64 0, Value.int IntKind.i64 0, Value.int IntKind.i64 0, Value.int IntKind.i64 0, Value.int IntKind.i64 0, Value.int IntKind.i64 0, Value.int IntKind.i64 0, Value.slice none 0 0, Value.string ⟨#[]⟩, Value.slice none 0 0, Value.int IntKind.i64 0, Value.int IntKind.i64 0, Value.int IntKind.i64 0, Value.string ⟨#[]⟩]⟩ := by kernel_rfl
noncomputable def inf_53 : TypeInfo := (Try.prog.info? 53).getD default
@[simp] theorem info_53 : Try.prog.info? 53 = some inf_53 := by kernel_rfl
@[simp] theorem infs_53 : inf_53.size = 18 := by kernel_rfl
@[simp] theorem pl_53 : placesOf Try.prog 53 = some [(0, 1), (1, 1), (2, 1), (3, 14), (17, 1)] := by kernel_rfl
@[simp] theorem ct_53 : cellTs Try.prog 8 53 = some [none, none, none, none, none, none, none, none, none, none, none, some 3, none, some 3, none, none, none, none] := by kernel_rfl
attribute [simp] Try.underlying53
@[simp] theorem ti_57 : ti Try.prog 57 = some ⟨(Try.prog.underlying 57).getD .bool, 3, 32, Value.agg #[Value.int IntKind.i64 0, Value.int IntKind.i64 0, Value.string ⟨#[]⟩]⟩ := by kernel_rfl
noncomputable def inf_57 : TypeInfo := (Try.prog.info? 57).getD default
@[simp] theorem info_57 : Try.prog.info? 57 = some inf_57 := by kernel_rfl
@[simp] theorem infs_57 : inf_57.size = 3 := by kernel_rfl
@[simp] theorem pl_57 : placesOf Try.prog 57 = some [(0, 1), (1, 1), (2, 1)] := by kernel_rfl
@[simp] theorem ct_57 : cellTs Try.prog 8 57 = some [none, none, none] := by kernel_rfl
attribute [simp] Try.underlying57
@[simp] theorem ti_58 : ti Try.prog 58 = some ⟨(Try.prog.underlying 58).getD .bool, 3, 32, Value.agg #[Value.int IntKind.i64 0, Value.int IntKind.i64 0, Value.string ⟨#[]⟩]⟩ := by kernel_rfl
noncomputable def inf_58 : TypeInfo := (Try.prog.info? 58).getD default
@[simp] theorem info_58 : Try.prog.info? 58 = some inf_58 := by kernel_rfl
@[simp] theorem infs_58 : inf_58.size = 3 := by kernel_rfl
@[simp] theorem pl_58 : placesOf Try.prog 58 = some [(0, 1), (1, 1), (2, 1)] := by kernel_rfl
@[simp] theorem pk_58 : plainKinds Try.prog 58 = some [0, 0, 2] := by kernel_rfl
@[simp] theorem ct_58 : cellTs Try.prog 8 58 = some [none, none, none] := by kernel_rfl
attribute [simp] Try.underlying58
@[simp] theorem ti_59 : ti Try.prog 59 = some ⟨(Try.prog.underlying 59).getD .bool, 6, 56, Value.agg #[Value.int IntKind.i64 0, Value.int IntKind.i64 0, Value.int IntKind.i64 0, Value.int IntKind.i64 0, Value.int IntKind.i64 0, Value.string ⟨#[]⟩]⟩ := by kernel_rfl
noncomputable def inf_59 : TypeInfo := (Try.prog.info? 59).getD default
@[simp] theorem info_59 : Try.prog.info? 59 = some inf_59 := by kernel_rfl
@[simp] theorem infs_59 : inf_59.size = 6 := by kernel_rfl
@[simp] theorem pl_59 : placesOf Try.prog 59 = some [(0, 1), (1, 1), (2, 1), (3, 3)] := by kernel_rfl
@[simp] theorem ct_59 : cellTs Try.prog 8 59 = some [none, none, none, none, none, none] := by kernel_rfl
attribute [simp] Try.underlying59
@[simp] theorem ti_60 : ti Try.prog 60 = some ⟨(Try.prog.underlying 60).getD .bool, 6, 56, Value.agg #[Value.int IntKind.i64 0, Value.int IntKind.i64 0, Value.int IntKind.i64 0, Value.int IntKind.i64 0, Value.int IntKind.i64 0, Value.string ⟨#[]⟩]⟩ := by kernel_rfl
noncomputable def inf_60 : TypeInfo := (Try.prog.info? 60).getD default
@[simp] theorem info_60 : Try.prog.info? 60 = some inf_60 := by kernel_rfl
@[simp] theorem infs_60 : inf_60.size = 6 := by kernel_rfl
@[simp] theorem pl_60 : placesOf Try.prog 60 = some [(0, 1), (1, 1), (2, 1), (3, 3)] := by kernel_rfl
@[simp] theorem ct_60 : cellTs Try.prog 8 60 = some [none, none, none, none, none, none] := by kernel_rfl
attribute [simp] Try.underlying60
@[simp] theorem ti_62 : ti Try.prog 62 = some ⟨(Try.prog.underlying 62).getD .bool, 3, 32, Value.agg #[Value.int IntKind.i64 0, Value.int IntKind.i64 0, Value.string ⟨#[]⟩]⟩ := by kernel_rfl
noncomputable def inf_62 : TypeInfo := (Try.prog.info? 62).getD default
@[simp] theorem info_62 : Try.prog.info? 62 = some inf_62 := by kernel_rfl
@[simp] theorem infs_62 : inf_62.size = 3 := by kernel_rfl
@[simp] theorem pl_62 : placesOf Try.prog 62 = some [(0, 1), (1, 1), (2, 1)] := by kernel_rfl
@[simp] theorem pk_62 : plainKinds Try.prog 62 = some [0, 0, 2] := by kernel_rfl
@[simp] theorem ct_62 : cellTs Try.prog 8 62 = some [none, none, none] := by kernel_rfl
attribute [simp] Try.underlying62
@[simp] theorem ti_63 : ti Try.prog 63 = some ⟨(Try.prog.underlying 63).getD .bool, 6, 56, Value.agg #[Value.int IntKind.i64 0, Value.int IntKind.i64 0, Value.int IntKind.i64 0, Value.int IntKind.i64 0, Value.int IntKind.i64 0, Value.string ⟨#[]⟩]⟩ := by kernel_rfl
noncomputable def inf_63 : TypeInfo := (Try.prog.info? 63).getD default
@[simp] theorem info_63 : Try.prog.info? 63 = some inf_63 := by kernel_rfl
@[simp] theorem infs_63 : inf_63.size = 6 := by kernel_rfl
@[simp] theorem pl_63 : placesOf Try.prog 63 = some [(0, 1), (1, 1), (2, 1), (3, 3)] := by kernel_rfl
@[simp] theorem ct_63 : cellTs Try.prog 8 63 = some [none, none, none, none, none, none] := by kernel_rfl
attribute [simp] Try.underlying63
@[simp] theorem ti_64 : ti Try.prog 64 = some ⟨(Try.prog.underlying 64).getD .bool, 6, 56, Value.agg #[Value.int IntKind.i64 0, Value.int IntKind.i64 0, Value.int IntKind.i64 0, Value.int IntKind.i64 0, Value.int IntKind.i64 0, Value.string ⟨#[]⟩]⟩ := by kernel_rfl
noncomputable def inf_64 : TypeInfo := (Try.prog.info? 64).getD default
@[simp] theorem info_64 : Try.prog.info? 64 = some inf_64 := by kernel_rfl
@[simp] theorem infs_64 : inf_64.size = 6 := by kernel_rfl
@[simp] theorem pl_64 : placesOf Try.prog 64 = some [(0, 1), (1, 1), (2, 1), (3, 3)] := by kernel_rfl
@[simp] theorem ct_64 : cellTs Try.prog 8 64 = some [none, none, none, none, none, none] := by kernel_rfl
attribute [simp] Try.underlying64
@[simp] theorem ti_78 : ti Try.prog 78 = some ⟨(Try.prog.underlying 78).getD .bool, 1, 24, Value.slice none 0 0⟩ := by kernel_rfl
noncomputable def inf_78 : TypeInfo := (Try.prog.info? 78).getD default
@[simp] theorem info_78 : Try.prog.info? 78 = some inf_78 := by kernel_rfl
@[simp] theorem infs_78 : inf_78.size = 1 := by kernel_rfl
@[simp] theorem ct_78 : cellTs Try.prog 8 78 = some [some 5] := by kernel_rfl
attribute [simp] Try.underlying78
@[simp] theorem ti_92 : ti Try.prog 92 = some ⟨(Try.prog.underlying 92).getD .bool, 1, 4, Value.int IntKind.u32 0⟩ := by kernel_rfl
noncomputable def inf_92 : TypeInfo := (Try.prog.info? 92).getD default
@[simp] theorem info_92 : Try.prog.info? 92 = some inf_92 := by kernel_rfl
@[simp] theorem infs_92 : inf_92.size = 1 := by kernel_rfl
@[simp] theorem ct_92 : cellTs Try.prog 8 92 = some [none] := by kernel_rfl
attribute [simp] Try.underlying92
def mk : FuncId → Nat → Mask
  | 6, 5 => ([true, true, false, false, false, true, false, false, false, false, false, false, false, false, false, false, false, false, false, false, false, false, false, false, false, false, false], [false, true, false, false, false, false, false, false, false, false, false, false, false, false, false, false, false, false, false, false, false, false, false, false, false, false, false], [false, false, false, false, true, false, false, false, false, false, false, false, false, false, false, false, false, false, false, false, false, false, false, false, false, false, false])
  | 7, 2 => ([true, false, false, true, false, false, false, false, false, false, false, false, false, false, false, false, false, false, false, false, false, false, false, false, false, false, false, false, false, false, false, false, false, false, false, false, false, false, false, false, false], [false, false, false, false, false, false, false, false, false, false, false, false, false, false, false, false, false, false, false, false, false, false, false, false, false, false, false, false, false, false, false, false, false, false, false, false, false, false, false, false, false], [false, false, true, false, false, false, false, false, false, false, false, false, false, false, false, false, false, false, false, false, false, false, false, false, false, false, false, false, false, false, false, false, false, false, false, false, false, false, false, false, false])
  | 7, 5 => ([true, false, false, true, true, false, false, false, false, false, false, false, false, false, false, false, false, false, false, false, false, false, false, false, false, false, false, false, false, false, false, false, false, false, false, false, false, false, false, false, false], [true, false, false, true, false, false, false, false, false, false, false, false, false, false, false, false, false, false, false, false, false, false, false, false, false, false, false, false, false, false, false, false, false, false, false, false, false, false, false, false, false], [false, false, true, false, false, false, false, false, false, false, false, false, false, false, false, false, false, false, false, false, false, false, false, false, false, false, false, false, false, false, false, false, false, false, false, false, false, false, false, false, false])
  | 8, 3 => ([true, false, false, true, true, false, false, false, false, false, false, false, false, false, false, false, false, false, false, false, false, false, false], [false, false, false, true, false, false, false, false, false, false, false, false, false, false, false, false, false, false, false, false, false, false, false], [false, false, true, false, false, false, false, false, false, false, false, false, false, false, false, false, false, false, false, false, false, false, false])
  | 9, 2 => ([true, false, false, false, false, false, false, true, true, true, false, false, false, false, false, false, false, false, false, false, false, false, false, false, false, false, false, false, false, false, false, false, false], [false, false, false, false, false, false, false, false, false, false, false, false, false, false, false, false, false, false, false, false, false, false, false, false, false, false, false, false, false, false, false, false, false], [false, false, true, false, false, false, false, false, false, false, false, false, false, false, false, false, false, false, false, false, false, false, false, false, false, false, false, false, false, false, false, false, false])
  | 9, 5 => ([true, false, false, false, true, false, false, true, true, true, false, false, false, true, true, true, false, false, false, false, false, false, false, false, false, false, false, false, false, false, false, false, false], [true, false, false, false, false, false, false, true, true, true, false, false, false, false, false, false, false, false, false, false, false, false, false, false, false, false, false, false, false, false, false, false, false], [false, false, true, false, false, false, false, false, false, false, false, false, false, false, false, false, false, false, false, false, false, false, false, false, false, false, false, false, false, false, false, false, false])
  | 10, 4 => ([true, true, false, false, false, true, false, false, false, false, false, false, false, false, false, false, false, false, false, false, false, false, false, false, false, false, false], [false, false, false, false, false, false, false, false, false, false, false, false, false, false, false, false, false, false, false, false, false, false, false, false, false, false, false], [false, false, false, false, true, false, false, false, false, false, false, false, false, false, false, false, false, false, false, false, false, false, false, false, false, false, false])
  | 11, 5 => ([true, true, false, false, false, true, false, false, false, false, false, false, false, false, false, false, false, false, false, false, false, false, false, false, false, false, false], [false, true, false, false, false, false, false, false, false, false, false, false, false, false, false, false, false, false, false, false, false, false, false, false, false, false, false], [false, false, false, false, true, false, false, false, false, false, false, false, false, false, false, false, false, false, false, false, false, false, false, false, false, false, false])
  | 12, 5 => ([true, false, false, false, true, true, false, false, false, false, false, false, false, false, false, false, false, false, false, false, false, false, false, false, false, false, false, false, false, false, false, false, false, false, false, false, false, false, false, false, false], [false, false, false, false, true, false, false, false, false, false, false, false, false, false, false, false, false, false, false, false, false, false, false, false, false, false, false, false, false, false, false, false, false, false, false, false, false, false, false, false, false], [false, false, true, true, false, false, false, false, false, false, false, false, false, false, false, false, false, false, false, false, false, false, false, false, false, false, false, false, false, false, false, false, false, false, false, false, false, false, false, false, false])
  | 12, 8 => ([true, false, false, false, true, true, true, false, false, false, false, false, false, false, false, false, false, false, false, false, false, false, false, false, false, false, false, false, false, false, false, false, false, false, false, false, false, false, false, false, false], [true, false, false, false, true, true, false, false, false, false, false, false, false, false, false, false, false, false, false, false, false, false, false, false, false, false, false, false, false, false, false, false, false, false, false, false, false, false, false, false, false], [false, false, true, true, false, false, false, false, false, false, false, false, false, false, false, false, false, false, false, false, false, false, false, false, false, false, false, false, false, false, false, false, false, false, false, false, false, false, false, false, false])
  | 13, 3 => ([true, false, false, true, true, false, false, false, false, false, false, false, false, false, false, false, false, false, false, false, false, false, false], [false, false, false, true, false, false, false, false, false, false, false, false, false, false, false, false, false, false, false, false, false, false, false], [false, false, true, false, false, false, false, false, false, false, false, false, false, false, false, false, false, false, false, false, false, false, false])
  | 14, 4 => ([true, false, false, false, true, false, false, false, false, false, false, false, false, false, false, false, false, false, false, false, false, false, false], [false, false, false, false, false, false, false, false, false, false, false, false, false, false, false, false, false, false, false, false, false, false, false], [false, false, true, true, false, false, false, false, false, false, false, false, false, false, false, false, false, false, false, false, false, false, false])
  | 15, 4 => ([true, true, false, false, false, true, false, false, false, false, false, false, false, false, false, false, false, false, false, false, false, false, false, false, false, false, false], [false, false, false, false, false, false, false, false, false, false, false, false, false, false, false, false, false, false, false, false, false, false, false, false, false, false, false], [false, false, false, false, true, false, false, false, false, false, false, false, false, false, false, false, false, false, false, false, false, false, false, false, false, false, false])
  | 16, 4 => ([true, true, false, false, false, true, false, false, false, false, false, false, false, false, false, false, false, false, false, false, false, false, false, false, false, false, false], [false, false, false, false, false, false, false, false, false, false, false, false, false, false, false, false, false, false, false, false, false, false, false, false, false, false, false], [false, false, false, false, true, false, false, false, false, false, false, false, false, false, false, false, false, false, false, false, false, false, false, false, false, false, false])
  | 17, 2 => ([true, true, false, false, false, true, false, false, false, false, false, false, false, false, false, false, false, false, false, false, false, false, false, false, false, false, false, false, false, false, false, false, false, false, false, false, false, false, false, false, false, false, false, false, false, false, false, false, false, false, false, false, false, false, false, false, false, false, false], [false, true, false, false, false, false, false, false, false, false, false, false, false, false, false, false, false, false, false, false, false, false, false, false, false, false, false, false, false, false, false, false, false, false, false, false, false, false, false, false, false, false, false, false, false, false, false, false, false, false, false, false, false, false, false, false, false, false, false], [false, false, false, false, true, false, false, false, false, false, false, false, false, false, false, false, false, false, false, false, false, false, false, false, false, false, false, false, false, false, false, false, false, false, false, false, false, false, false, false, false, false, false, false, false, false, false, false, false, false, false, false, false, false, false, false, false, false, false])
  | 18, 2 => ([true, true, false, false, false, true, false, false, false, false, false, false, false, false, false, false, false, false, false, false, false, false, false, false, false, false, false, false, false, false, false, false, false, false, false], [false, true, false, false, false, false, false, false, false, false, false, false, false, false, false, false, false, false, false, false, false, false, false, false, false, false, false, false, false, false, false, false, false, false, false], [false, false, false, false, true, false, false, false, false, false, false, false, false, false, false, false, false, false, false, false, false, false, false, false, false, false, false, false, false, false, false, false, false, false, false])
  | 19, 2 => ([true, true, false, false, false, true, false, false, false, false, false, false, false, false, false, false, false, false, false, false, false, false, false, false, false, false, false, false, false, false, false, false, false, false, false, false, false, false, false, false, false], [false, true, false, false, false, false, false, false, false, false, false, false, false, false, false, false, false, false, false, false, false, false, false, false, false, false, false, false, false, false, false, false, false, false, false, false, false, false, false, false, false], [false, false, false, false, true, false, false, false, false, false, false, false, false, false, false, false, false, false, false, false, false, false, false, false, false, false, false, false, false, false, false, false, false, false, false, false, false, false, false, false, false])
  | 20, 2 => ([true, false, false, true, false, false, false, false, false, false, false, false, false, false, false, false, false, false, false, false, false, false, false, false, false, false, false, false, false, false, false, false, false, false, false, false, false, false, false, false, false, false, false, false, false, false, false, false, false, false, false, false, false, false, false, false, false, false, false, false, false, false, false, false, false, false, false], [false, false, false, false, false, false, false, false, false, false, false, false, false, false, false, false, false, false, false, false, false, false, false, false, false, false, false, false, false, false, false, false, false, false, false, false, false, false, false, false, false, false, false, false, false, false, false, false, false, false, false, false, false, false, false, false, false, false, false, false, false, false, false, false, false, false, false], [false, false, true, false, false, false, false, false, false, false, false, false, false, false, false, false, false, false, false, false, false, false, false, false, false, false, false, false, false, false, false, false, false, false, false, false, false, false, false, false, false, false, false, false, false, false, false, false, false, false, false, false, false, false, false, false, false, false, false, false, false, false, false, false, false, false, false])
  | 20, 5 => ([true, false, false, true, true, false, false, false, false, false, false, false, false, false, false, false, false, false, false, false, false, false, false, false, false, false, false, false, false, false, false, false, false, false, false, false, false, false, false, false, false, false, false, false, false, false, false, false, false, false, false, false, false, false, false, false, false, false, false, false, false, false, false, false, false, false, false], [true, false, false, true, false, false, false, false, false, false, false, false, false, false, false, false, false, false, false, false, false, false, false, false, false, false, false, false, false, false, false, false, false, false, false, false, false, false, false, false, false, false, false, false, false, false, false, false, false, false, false, false, false, false, false, false, false, false, false, false, false, false, false, false, false, false, false], [false, false, true, false, false, false, false, false, false, false, false, false, false, false, false, false, false, false, false, false, false, false, false, false, false, false, false, false, false, false, false, false, false, false, false, false, false, false, false, false, false, false, false, false, false, false, false, false, false, false, false, false, false, false, false, false, false, false, false, false, false, false, false, false, false, false, false])
  | 21, 3 => ([true, false, false, true, false, false, false, false, true, true, true, false, false, false, false, false, false, false, false, false, false, false, false, false, false, false, false, false, false, false, false, false, false, false, false, false, false, false, false, false, false, false, false, false, false, false, false, false, false, false, false, false, false, false, false], [false, false, false, false, false, false, false, false, false, false, false, false, false, false, false, false, false, false, false, false, false, false, false, false, false, false, false, false, false, false, false, false, false, false, false, false, false, false, false, false, false, false, false, false, false, false, false, false, false, false, false, false, false, false, false], [false, false, true, false, false, false, false, false, false, false, false, false, false, false, false, false, false, false, false, false, false, false, false, false, false, false, false, false, false, false, false, false, false, false, false, false, false, false, false, false, false, false, false, false, false, false, false, false, false, false, false, false, false, false, false])
  | 21, 6 => ([true, false, false, true, false, true, false, false, true, true, true, false, false, false, true, true, true, false, false, false, false, false, false, false, false, false, false, false, false, false, false, false, false, false, false, false, false, false, false, false, false, false, false, false, false, false, false, false, false, false, false, false, false, false, false], [true, false, false, true, false, false, false, false, true, true, true, false, false, false, false, false, false, false, false, false, false, false, false, false, false, false, false, false, false, false, false, false, false, false, false, false, false, false, false, false, false, false, false, false, false, false, false, false, false, false, false, false, false, false, false], [false, false, true, false, false, false, false, false, false, false, false, false, false, false, false, false, false, false, false, false, false, false, false, false, false, false, false, false, false, false, false, false, false, false, false, false, false, false, false, false, false, false, false, false, false, false, false, false, false, false, false, false, false, false, false])
  | 26, 2 => ([true, false, false, true, false, false, false, false, false, false, false, false, false, false, false, false, false, false, false, false, false, false, false, false, false, false, false, false, false, false, false, false, false, false, false, false, false, false, false, false], [false, false, false, false, false, false, false, false, false, false, false, false, false, false, false, false, false, false, false, false, false, false, false, false, false, false, false, false, false, false, false, false, false, false, false, false, false, false, false, false], [false, false, true, false, false, false, false, false, false, false, false, false, false, false, false, false, false, false, false, false, false, false, false, false, false, false, false, false, false, false, false, false, false, false, false, false, false, false, false, false])
  | 26, 5 => ([true, false, false, true, true, false, false, false, false, false, false, false, false, false, false, false, false, false, false, false, false, false, false, false, false, false, false, false, false, false, false, false, false, false, false, false, false, false, false, false], [true, false, false, true, false, false, false, false, false, false, false, false, false, false, false, false, false, false, false, false, false, false, false, false, false, false, false, false, false, false, false, false, false, false, false, false, false, false, false, false], [false, false, true, false, false, false, false, false, false, false, false, false, false, false, false, false, false, false, false, false, false, false, false, false, false, false, false, false, false, false, false, false, false, false, false, false, false, false, false, false])
  | 28, 2 => ([true, false, false, false, false, false, false, true, true, true, false, false, false, false, false, false, false, false, false, false, false, false, false, false, false, false, false, false, false, false, false, false, false], [false, false, false, false, false, false, false, false, false, false, false, false, false, false, false, false, false, false, false, false, false, false, false, false, false, false, false, false, false, false, false, false, false], [false, false, true, false, false, false, false, false, false, false, false, false, false, false, false, false, false, false, false, false, false, false, false, false, false, false, false, false, false, false, false, false, false])
  | 28, 5 => ([true, false, false, false, true, false, false, true, true, true, false, false, false, true, true, true, false, false, false, false, false, false, false, false, false, false, false, false, false, false, false, false, false], [true, false, false, false, false, false, false, true, true, true, false, false, false, false, false, false, false, false, false, false, false, false, false, false, false, false, false, false, false, false, false, false, false], [false, false, true, false, false, false, false, false, false, false, false, false, false, false, false, false, false, false, false, false, false, false, false, false, false, false, false, false, false, false, false, false, false])
  | 29, 2 => ([true, true, false, false, false, false, false, true, true, false, false, false, false, false, false, false, false, false, false], [false, false, false, false, false, false, false, false, false, false, false, false, false, false, false, false, false, false, false], [false, false, false, false, true, false, false, false, false, false, false, false, false, false, false, false, false, false, false])
  | 33, 4 => ([true, false, false, true, false, false, false, false, false, false, false, false, false, false, false, false, false, false, false, false], [false, false, false, true, false, false, false, false, false, false, false, false, false, false, false, false, false, false, false, false], [false, false, true, false, false, false, false, false, false, false, false, false, false, false, false, false, false, false, false, false])
  | 45, 3 => ([true, false, false, true, true, false, false, false, false, false, false, false, false, false, false, false, false, false, false, false, false, false], [false, false, false, true, false, false, false, false, false, false, false, false, false, false, false, false, false, false, false, false, false, false], [false, false, true, false, false, false, false, false, false, false, false, false, false, false, false, false, false, false, false, false, false, false])
  | 46, 4 => ([true, true, false, false, false, true, false, false, false, false, false, false, false, false, false, false, false, false, false, false, false, false, false, false, false, false], [false, false, false, false, false, false, false, false, false, false, false, false, false, false, false, false, false, false, false, false, false, false, false, false, false, false], [false, false, false, false, true, false, false, false, false, false, false, false, false, false, false, false, false, false, false, false, false, false, false, false, false, false])
  | _, _ => ([], [], [])
end Go.Proofs.Ytjleanfcjipofaa.Eng
