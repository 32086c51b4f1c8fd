/- The types of this seat's program, as far as the engine asks, and what its functions' loops keep. No condition. -/
import Derived.Test.YtjleanfcjipofaaEngP
import Derived.Test.YtjleanfcjipofaaChecked
namespace Go.Proofs.Ytjleanfcjipofaa.Eng
open Go Go.RowKit Go.Proofs
set_option maxRecDepth 100000
@[simp] theorem ti_1 : ti Try.prog 1 = some ⟨(Try.prog.underlying 1).getD .bool, 1, 8, Value.nilFunc⟩ := by kernel_rfl
noncomputable def inf_1 : TypeInfo := (Try.prog.info? 1).getD default
@[simp] theorem info_1 : Try.prog.info? 1 = some inf_1 := by kernel_rfl
@[simp] theorem infs_1 : inf_1.size = 1 := by kernel_rfl
attribute [simp] Try.underlying1
@[simp] theorem ti_2 : ti Try.prog 2 = some ⟨(Try.prog.underlying 2).getD .bool, 1, 8, Value.int IntKind.i64 (0)⟩ := by kernel_rfl
noncomputable def inf_2 : TypeInfo := (Try.prog.info? 2).getD default
@[simp] theorem info_2 : Try.prog.info? 2 = some inf_2 := by kernel_rfl
@[simp] theorem infs_2 : inf_2.size = 1 := by kernel_rfl
attribute [simp] Try.underlying2
@[simp] theorem ti_3 : ti Try.prog 3 = some ⟨(Try.prog.underlying 3).getD .bool, 1, 8, Value.int IntKind.i64 (0)⟩ := by kernel_rfl
noncomputable def inf_3 : TypeInfo := (Try.prog.info? 3).getD default
@[simp] theorem info_3 : Try.prog.info? 3 = some inf_3 := by kernel_rfl
@[simp] theorem infs_3 : inf_3.size = 1 := by kernel_rfl
attribute [simp] Try.underlying3
@[simp] theorem ti_4 : ti Try.prog 4 = some ⟨(Try.prog.underlying 4).getD .bool, 1, 1, Value.bool false⟩ := by kernel_rfl
noncomputable def inf_4 : TypeInfo := (Try.prog.info? 4).getD default
@[simp] theorem info_4 : Try.prog.info? 4 = some inf_4 := by kernel_rfl
@[simp] theorem infs_4 : inf_4.size = 1 := by kernel_rfl
attribute [simp] Try.underlying4
@[simp] theorem ti_5 : ti Try.prog 5 = some ⟨(Try.prog.underlying 5).getD .bool, 1, 1, Value.int IntKind.u8 (0)⟩ := by kernel_rfl
noncomputable def inf_5 : TypeInfo := (Try.prog.info? 5).getD default
@[simp] theorem info_5 : Try.prog.info? 5 = some inf_5 := by kernel_rfl
@[simp] theorem infs_5 : inf_5.size = 1 := by kernel_rfl
attribute [simp] Try.underlying5
@[simp] theorem ti_6 : ti Try.prog 6 = some ⟨(Try.prog.underlying 6).getD .bool, 1, 1, Value.int IntKind.u8 (0)⟩ := by kernel_rfl
noncomputable def inf_6 : TypeInfo := (Try.prog.info? 6).getD default
@[simp] theorem info_6 : Try.prog.info? 6 = some inf_6 := by kernel_rfl
@[simp] theorem infs_6 : inf_6.size = 1 := by kernel_rfl
attribute [simp] Try.underlying6
@[simp] theorem ti_7 : ti Try.prog 7 = some ⟨(Try.prog.underlying 7).getD .bool, 4, 24, Value.agg #[Value.int IntKind.i64 (0), Value.int IntKind.i64 (0), Value.bool false, Value.int IntKind.u8 (0)]⟩ := by kernel_rfl
noncomputable def inf_7 : TypeInfo := (Try.prog.info? 7).getD default
@[simp] theorem info_7 : Try.prog.info? 7 = some inf_7 := by kernel_rfl
@[simp] theorem infs_7 : inf_7.size = 4 := by kernel_rfl
@[simp] theorem pl_7 : placesOf Try.prog 7 = some [(0, 1), (1, 1), (2, 1), (3, 1)] := by kernel_rfl
@[simp] theorem pk_7 : plainKinds Try.prog 7 = some [0, 0, 1, 0] := by kernel_rfl
attribute [simp] Try.underlying7
@[simp] theorem ti_8 : ti Try.prog 8 = some ⟨(Try.prog.underlying 8).getD .bool, 4, 24, Value.agg #[Value.int IntKind.i64 (0), Value.int IntKind.i64 (0), Value.bool false, Value.int IntKind.u8 (0)]⟩ := by kernel_rfl
noncomputable def inf_8 : TypeInfo := (Try.prog.info? 8).getD default
@[simp] theorem info_8 : Try.prog.info? 8 = some inf_8 := by kernel_rfl
@[simp] theorem infs_8 : inf_8.size = 4 := by kernel_rfl
@[simp] theorem pl_8 : placesOf Try.prog 8 = some [(0, 1), (1, 1), (2, 1), (3, 1)] := by kernel_rfl
@[simp] theorem pk_8 : plainKinds Try.prog 8 = some [0, 0, 1, 0] := by kernel_rfl
attribute [simp] Try.underlying8
@[simp] theorem ti_9 : ti Try.prog 9 = some ⟨(Try.prog.underlying 9).getD .bool, 1, 16, Value.string ⟨#[]⟩⟩ := by kernel_rfl
noncomputable def inf_9 : TypeInfo := (Try.prog.info? 9).getD default
@[simp] theorem info_9 : Try.prog.info? 9 = some inf_9 := by kernel_rfl
@[simp] theorem infs_9 : inf_9.size = 1 := by kernel_rfl
attribute [simp] Try.underlying9
@[simp] theorem ti_10 : ti Try.prog 10 = some ⟨(Try.prog.underlying 10).getD .bool, 1, 16, Value.string ⟨#[]⟩⟩ := by kernel_rfl
noncomputable def inf_10 : TypeInfo := (Try.prog.info? 10).getD default
@[simp] theorem info_10 : Try.prog.info? 10 = some inf_10 := by kernel_rfl
@[simp] theorem infs_10 : inf_10.size = 1 := by kernel_rfl
attribute [simp] Try.underlying10
@[simp] theorem ti_11 : ti Try.prog 11 = some ⟨(Try.prog.underlying 11).getD .bool, 1, 16, Value.string ⟨#[]⟩⟩ := by kernel_rfl
noncomputable def inf_11 : TypeInfo := (Try.prog.info? 11).getD default
@[simp] theorem info_11 : Try.prog.info? 11 = some inf_11 := by kernel_rfl
@[simp] theorem infs_11 : inf_11.size = 1 := by kernel_rfl
attribute [simp] Try.underlying11
@[simp] theorem ti_12 : ti Try.prog 12 = some ⟨(Try.prog.underlying 12).getD .bool, 1, 8, Value.int IntKind.u64 (0)⟩ := by kernel_rfl
noncomputable def inf_12 : TypeInfo := (Try.prog.info? 12).getD default
@[simp] theorem info_12 : Try.prog.info? 12 = some inf_12 := by kernel_rfl
@[simp] theorem infs_12 : inf_12.size = 1 := by kernel_rfl
attribute [simp] Try.underlying12
@[simp] theorem ti_13 : ti Try.prog 13 = some ⟨(Try.prog.underlying 13).getD .bool, 2, 24, Value.agg #[Value.string ⟨#[]⟩, Value.int IntKind.u64 (0)]⟩ := by kernel_rfl
noncomputable def inf_13 : TypeInfo := (Try.prog.info? 13).getD default
@[simp] theorem info_13 : Try.prog.info? 13 = some inf_13 := by kernel_rfl
@[simp] theorem infs_13 : inf_13.size = 2 := by kernel_rfl
@[simp] theorem pl_13 : placesOf Try.prog 13 = some [(0, 1), (1, 1)] := by kernel_rfl
attribute [simp] Try.underlying13
@[simp] theorem ti_14 : ti Try.prog 14 = some ⟨(Try.prog.underlying 14).getD .bool, 2, 24, Value.agg #[Value.string ⟨#[]⟩, Value.int IntKind.u64 (0)]⟩ := by kernel_rfl
noncomputable def inf_14 : TypeInfo := (Try.prog.info? 14).getD default
@[simp] theorem info_14 : Try.prog.info? 14 = some inf_14 := by kernel_rfl
@[simp] theorem infs_14 : inf_14.size = 2 := by kernel_rfl
@[simp] theorem pl_14 : placesOf Try.prog 14 = some [(0, 1), (1, 1)] := by kernel_rfl
attribute [simp] Try.underlying14
@[simp] theorem ti_15 : ti Try.prog 15 = some ⟨(Try.prog.underlying 15).getD .bool, 1, 8, Value.pointer none⟩ := by kernel_rfl
noncomputable def inf_15 : TypeInfo := (Try.prog.info? 15).getD default
@[simp] theorem info_15 : Try.prog.info? 15 = some inf_15 := by kernel_rfl
@[simp] theorem infs_15 : inf_15.size = 1 := by kernel_rfl
attribute [simp] Try.underlying15
@[simp] theorem ti_16 : ti Try.prog 16 = some ⟨(Try.prog.underlying 16).getD .bool, 1, 8, Value.pointer none⟩ := by kernel_rfl
noncomputable def inf_16 : TypeInfo := (Try.prog.info? 16).getD default
@[simp] theorem info_16 : Try.prog.info? 16 = some inf_16 := by kernel_rfl
@[simp] theorem infs_16 : inf_16.size = 1 := by kernel_rfl
attribute [simp] Try.underlying16
@[simp] theorem ti_17 : ti Try.prog 17 = some ⟨(Try.prog.underlying 17).getD .bool, 1, 8, Value.pointer none⟩ := by kernel_rfl
noncomputable def inf_17 : TypeInfo := (Try.prog.info? 17).getD default
@[simp] theorem info_17 : Try.prog.info? 17 = some inf_17 := by kernel_rfl
@[simp] theorem infs_17 : inf_17.size = 1 := by kernel_rfl
attribute [simp] Try.underlying17
@[simp] theorem ti_18 : ti Try.prog 18 = some ⟨(Try.prog.underlying 18).getD .bool, 1, 8, Value.agg #[Value.pointer none]⟩ := by kernel_rfl
noncomputable def inf_18 : TypeInfo := (Try.prog.info? 18).getD default
@[simp] theorem info_18 : Try.prog.info? 18 = some inf_18 := by kernel_rfl
@[simp] theorem infs_18 : inf_18.size = 1 := by kernel_rfl
@[simp] theorem pl_18 : placesOf Try.prog 18 = some [(0, 1)] := by kernel_rfl
attribute [simp] Try.underlying18
@[simp] theorem ti_19 : ti Try.prog 19 = some ⟨(Try.prog.underlying 19).getD .bool, 1, 8, Value.agg #[Value.pointer none]⟩ := by kernel_rfl
noncomputable def inf_19 : TypeInfo := (Try.prog.info? 19).getD default
@[simp] theorem info_19 : Try.prog.info? 19 = some inf_19 := by kernel_rfl
@[simp] theorem infs_19 : inf_19.size = 1 := by kernel_rfl
@[simp] theorem pl_19 : placesOf Try.prog 19 = some [(0, 1)] := by kernel_rfl
attribute [simp] Try.underlying19
@[simp] theorem ti_21 : ti Try.prog 21 = some ⟨(Try.prog.underlying 21).getD .bool, 1, 4, Value.int IntKind.i32 (0)⟩ := by kernel_rfl
noncomputable def inf_21 : TypeInfo := (Try.prog.info? 21).getD default
@[simp] theorem info_21 : Try.prog.info? 21 = some inf_21 := by kernel_rfl
@[simp] theorem infs_21 : inf_21.size = 1 := by kernel_rfl
attribute [simp] Try.underlying21
@[simp] theorem ti_22 : ti Try.prog 22 = some ⟨(Try.prog.underlying 22).getD .bool, 1, 24, Value.slice none 0 0⟩ := by kernel_rfl
noncomputable def inf_22 : TypeInfo := (Try.prog.info? 22).getD default
@[simp] theorem info_22 : Try.prog.info? 22 = some inf_22 := by kernel_rfl
@[simp] theorem infs_22 : inf_22.size = 1 := by kernel_rfl
attribute [simp] Try.underlying22
@[simp] theorem ti_23 : ti Try.prog 23 = some ⟨(Try.prog.underlying 23).getD .bool, 1, 8, Value.nilFunc⟩ := by kernel_rfl
noncomputable def inf_23 : TypeInfo := (Try.prog.info? 23).getD default
@[simp] theorem info_23 : Try.prog.info? 23 = some inf_23 := by kernel_rfl
@[simp] theorem infs_23 : inf_23.size = 1 := by kernel_rfl
attribute [simp] Try.underlying23
@[simp] theorem ti_24 : ti Try.prog 24 = some ⟨(Try.prog.underlying 24).getD .bool, 1, 8, Value.nilFunc⟩ := by kernel_rfl
noncomputable def inf_24 : TypeInfo := (Try.prog.info? 24).getD default
@[simp] theorem info_24 : Try.prog.info? 24 = some inf_24 := by kernel_rfl
@[simp] theorem infs_24 : inf_24.size = 1 := by kernel_rfl
attribute [simp] Try.underlying24
@[simp] theorem ti_25 : ti Try.prog 25 = some ⟨(Try.prog.underlying 25).getD .bool, 1, 24, Value.slice none 0 0⟩ := by kernel_rfl
noncomputable def inf_25 : TypeInfo := (Try.prog.info? 25).getD default
@[simp] theorem info_25 : Try.prog.info? 25 = some inf_25 := by kernel_rfl
@[simp] theorem infs_25 : inf_25.size = 1 := by kernel_rfl
attribute [simp] Try.underlying25
@[simp] theorem ti_26 : ti Try.prog 26 = some ⟨(Try.prog.underlying 26).getD .bool, 1, 8, Value.nilFunc⟩ := by kernel_rfl
noncomputable def inf_26 : TypeInfo := (Try.prog.info? 26).getD default
@[simp] theorem info_26 : Try.prog.info? 26 = some inf_26 := by kernel_rfl
@[simp] theorem infs_26 : inf_26.size = 1 := by kernel_rfl
attribute [simp] Try.underlying26
@[simp] theorem ti_27 : ti Try.prog 27 = some ⟨(Try.prog.underlying 27).getD .bool, 1, 8, Value.nilFunc⟩ := by kernel_rfl
noncomputable def inf_27 : TypeInfo := (Try.prog.info? 27).getD default
@[simp] theorem info_27 : Try.prog.info? 27 = some inf_27 := by kernel_rfl
@[simp] theorem infs_27 : inf_27.size = 1 := by kernel_rfl
attribute [simp] Try.underlying27
@[simp] theorem ti_28 : ti Try.prog 28 = some ⟨(Try.prog.underlying 28).getD .bool, 1, 8, Value.nilFunc⟩ := by kernel_rfl
noncomputable def inf_28 : TypeInfo := (Try.prog.info? 28).getD default
@[simp] theorem info_28 : Try.prog.info? 28 = some inf_28 := by kernel_rfl
@[simp] theorem infs_28 : inf_28.size = 1 := by kernel_rfl
attribute [simp] Try.underlying28
@[simp] theorem ti_29 : ti Try.prog 29 = some ⟨(Try.prog.underlying 29).getD .bool, 1, 24, Value.slice none 0 0⟩ := by kernel_rfl
noncomputable def inf_29 : TypeInfo := (Try.prog.info? 29).getD default
@[simp] theorem info_29 : Try.prog.info? 29 = some inf_29 := by kernel_rfl
@[simp] theorem infs_29 : inf_29.size = 1 := by kernel_rfl
attribute [simp] Try.underlying29
@[simp] theorem ti_30 : ti Try.prog 30 = some ⟨(Try.prog.underlying 30).getD .bool, 1, 8, Value.nilFunc⟩ := by kernel_rfl
noncomputable def inf_30 : TypeInfo := (Try.prog.info? 30).getD default
@[simp] theorem info_30 : Try.prog.info? 30 = some inf_30 := by kernel_rfl
@[simp] theorem infs_30 : inf_30.size = 1 := by kernel_rfl
attribute [simp] Try.underlying30
@[simp] theorem ti_31 : ti Try.prog 31 = some ⟨(Try.prog.underlying 31).getD .bool, 1, 24, Value.slice none 0 0⟩ := by kernel_rfl
noncomputable def inf_31 : TypeInfo := (Try.prog.info? 31).getD default
@[simp] theorem info_31 : Try.prog.info? 31 = some inf_31 := by kernel_rfl
@[simp] theorem infs_31 : inf_31.size = 1 := by kernel_rfl
attribute [simp] Try.underlying31
@[simp] theorem ti_33 : ti Try.prog 33 = some ⟨(Try.prog.underlying 33).getD .bool, 1, 8, Value.nilFunc⟩ := by kernel_rfl
noncomputable def inf_33 : TypeInfo := (Try.prog.info? 33).getD default
@[simp] theorem info_33 : Try.prog.info? 33 = some inf_33 := by kernel_rfl
@[simp] theorem infs_33 : inf_33.size = 1 := by kernel_rfl
attribute [simp] Try.underlying33
@[simp] theorem ti_34 : ti Try.prog 34 = some ⟨(Try.prog.underlying 34).getD .bool, 1, 24, Value.slice none 0 0⟩ := by kernel_rfl
noncomputable def inf_34 : TypeInfo := (Try.prog.info? 34).getD default
@[simp] theorem info_34 : Try.prog.info? 34 = some inf_34 := by kernel_rfl
@[simp] theorem infs_34 : inf_34.size = 1 := by kernel_rfl
attribute [simp] Try.underlying34
@[simp] theorem ti_35 : ti Try.prog 35 = some ⟨(Try.prog.underlying 35).getD .bool, 1, 8, Value.nilFunc⟩ := by kernel_rfl
noncomputable def inf_35 : TypeInfo := (Try.prog.info? 35).getD default
@[simp] theorem info_35 : Try.prog.info? 35 = some inf_35 := by kernel_rfl
@[simp] theorem infs_35 : inf_35.size = 1 := by kernel_rfl
attribute [simp] Try.underlying35
@[simp] theorem ti_36 : ti Try.prog 36 = some ⟨(Try.prog.underlying 36).getD .bool, 1, 8, Value.nilFunc⟩ := by kernel_rfl
noncomputable def inf_36 : TypeInfo := (Try.prog.info? 36).getD default
@[simp] theorem info_36 : Try.prog.info? 36 = some inf_36 := by kernel_rfl
@[simp] theorem infs_36 : inf_36.size = 1 := by kernel_rfl
attribute [simp] Try.underlying36
@[simp] theorem ti_37 : ti Try.prog 37 = some ⟨(Try.prog.underlying 37).getD .bool, 1, 8, Value.nilFunc⟩ := by kernel_rfl
noncomputable def inf_37 : TypeInfo := (Try.prog.info? 37).getD default
@[simp] theorem info_37 : Try.prog.info? 37 = some inf_37 := by kernel_rfl
@[simp] theorem infs_37 : inf_37.size = 1 := by kernel_rfl
attribute [simp] Try.underlying37
@[simp] theorem ti_38 : ti Try.prog 38 = some ⟨(Try.prog.underlying 38).getD .bool, 1, 8, Value.nilFunc⟩ := by kernel_rfl
noncomputable def inf_38 : TypeInfo := (Try.prog.info? 38).getD default
@[simp] theorem info_38 : Try.prog.info? 38 = some inf_38 := by kernel_rfl
@[simp] theorem infs_38 : inf_38.size = 1 := by kernel_rfl
attribute [simp] Try.underlying38
@[simp] theorem ti_39 : ti Try.prog 39 = some ⟨(Try.prog.underlying 39).getD .bool, 1, 8, Value.nilFunc⟩ := by kernel_rfl
noncomputable def inf_39 : TypeInfo := (Try.prog.info? 39).getD default
@[simp] theorem info_39 : Try.prog.info? 39 = some inf_39 := by kernel_rfl
@[simp] theorem infs_39 : inf_39.size = 1 := by kernel_rfl
attribute [simp] Try.underlying39
@[simp] theorem ti_40 : ti Try.prog 40 = some ⟨(Try.prog.underlying 40).getD .bool, 1, 8, Value.nilFunc⟩ := by kernel_rfl
noncomputable def inf_40 : TypeInfo := (Try.prog.info? 40).getD default
@[simp] theorem info_40 : Try.prog.info? 40 = some inf_40 := by kernel_rfl
@[simp] theorem infs_40 : inf_40.size = 1 := by kernel_rfl
attribute [simp] Try.underlying40
@[simp] theorem ti_41 : ti Try.prog 41 = some ⟨(Try.prog.underlying 41).getD .bool, 1, 8, Value.nilFunc⟩ := by kernel_rfl
noncomputable def inf_41 : TypeInfo := (Try.prog.info? 41).getD default
@[simp] theorem info_41 : Try.prog.info? 41 = some inf_41 := by kernel_rfl
@[simp] theorem infs_41 : inf_41.size = 1 := by kernel_rfl
attribute [simp] Try.underlying41
@[simp] theorem ti_42 : ti Try.prog 42 = some ⟨(Try.prog.underlying 42).getD .bool, 1, 24, Value.slice none 0 0⟩ := by kernel_rfl
noncomputable def inf_42 : TypeInfo := (Try.prog.info? 42).getD default
@[simp] theorem info_42 : Try.prog.info? 42 = some inf_42 := by kernel_rfl
@[simp] theorem infs_42 : inf_42.size = 1 := by kernel_rfl
attribute [simp] Try.underlying42
@[simp] theorem ti_43 : ti Try.prog 43 = some ⟨(Try.prog.underlying 43).getD .bool, 9, 112, Value.agg #[Value.int IntKind.i64 (0), Value.int IntKind.i64 (0), Value.int IntKind.i64 (0), Value.int IntKind.i64 (0), Value.int IntKind.i64 (0), Value.slice none 0 0, Value.string ⟨#[]⟩, Value.slice none 0 0, Value.int IntKind.i64 (0)]⟩ := by kernel_rfl
noncomputable def inf_43 : TypeInfo := (Try.prog.info? 43).getD default
@[simp] theorem info_43 : Try.prog.info? 43 = some inf_43 := by kernel_rfl
@[simp] theorem infs_43 : inf_43.size = 9 := by kernel_rfl
@[simp] theorem pl_43 : placesOf Try.prog 43 = some [(0, 1), (1, 1), (2, 1), (3, 1), (4, 1), (5, 1), (6, 1), (7, 1), (8, 1)] := by kernel_rfl
attribute [simp] Try.underlying43
@[simp] theorem ti_44 : ti Try.prog 44 = some ⟨(Try.prog.underlying 44).getD .bool, 9, 112, Value.agg #[Value.int IntKind.i64 (0), Value.int IntKind.i64 (0), Value.int IntKind.i64 (0), Value.int IntKind.i64 (0), Value.int IntKind.i64 (0), Value.slice none 0 0, Value.string ⟨#[]⟩, Value.slice none 0 0, Value.int IntKind.i64 (0)]⟩ := by kernel_rfl
noncomputable def inf_44 : TypeInfo := (Try.prog.info? 44).getD default
@[simp] theorem info_44 : Try.prog.info? 44 = some inf_44 := by kernel_rfl
@[simp] theorem infs_44 : inf_44.size = 9 := by kernel_rfl
@[simp] theorem pl_44 : placesOf Try.prog 44 = some [(0, 1), (1, 1), (2, 1), (3, 1), (4, 1), (5, 1), (6, 1), (7, 1), (8, 1)] := by kernel_rfl
attribute [simp] Try.underlying44
@[simp] theorem ti_45 : ti Try.prog 45 = some ⟨(Try.prog.underlying 45).getD .bool, 14, 152, Value.agg #[Value.int IntKind.i64 (0), Value.int IntKind.i64 (0), Value.int IntKind.i64 (0), Value.int IntKind.i64 (0), Value.int IntKind.i64 (0), Value.int IntKind.i64 (0), Value.int IntKind.i64 (0), Value.int IntKind.i64 (0), Value.slice none 0 0, Value.string ⟨#[]⟩, Value.slice none 0 0, Value.int IntKind.i64 (0), Value.int IntKind.i64 (0), Value.int IntKind.i64 (0)]⟩ := by kernel_rfl
noncomputable def inf_45 : TypeInfo := (Try.prog.info? 45).getD default
@[simp] theorem info_45 : Try.prog.info? 45 = some inf_45 := by kernel_rfl
@[simp] theorem infs_45 : inf_45.size = 14 := by kernel_rfl
@[simp] theorem pl_45 : placesOf Try.prog 45 = some [(0, 1), (1, 1), (2, 1), (3, 9), (12, 1), (13, 1)] := by kernel_rfl
attribute [simp] Try.underlying45
@[simp] theorem ti_46 : ti Try.prog 46 = some ⟨(Try.prog.underlying 46).getD .bool, 14, 152, Value.agg #[Value.int IntKind.i64 (0), Value.int IntKind.i64 (0), Value.int IntKind.i64 (0), Value.int IntKind.i64 (0), Value.int IntKind.i64 (0), Value.int IntKind.i64 (0), Value.int IntKind.i64 (0), Value.int IntKind.i64 (0), Value.slice none 0 0, Value.string ⟨#[]⟩, Value.slice none 0 0, Value.int IntKind.i64 (0), Value.int IntKind.i64 (0), Value.int IntKind.i64 (0)]⟩ := by kernel_rfl
noncomputable def inf_46 : TypeInfo := (Try.prog.info? 46).getD default
@[simp] theorem info_46 : Try.prog.info? 46 = some inf_46 := by kernel_rfl
@[simp] theorem infs_46 : inf_46.size = 14 := by kernel_rfl
@[simp] theorem pl_46 : placesOf Try.prog 46 = some [(0, 1), (1, 1), (2, 1), (3, 9), (12, 1), (13, 1)] := by kernel_rfl
attribute [simp] Try.underlying46
@[simp] theorem ti_47 : ti Try.prog 47 = some ⟨(Try.prog.underlying 47).getD .bool, 18, 192, Value.agg #[Value.int IntKind.i64 (0), Value.int IntKind.i64 (0), Value.int IntKind.i64 (0), Value.int IntKind.i64 (0), Value.int IntKind.i64 (0), Value.int IntKind.i64 (0), Value.int IntKind.i64 (0), Value.int IntKind.i64 (0), Value.int IntKind.i64 (0), Value.int IntKind.i64 (0), Value.int IntKind.i64 (0), Value.slice none 0 0, Value.string ⟨#[]⟩, Value.slice none 0 0, Value.int IntKind.i64 (0), Value.int IntKind.i64 (0), Value.int IntKind.i64 (0), Value.string ⟨#[]⟩]⟩ := by kernel_rfl
noncomputable def inf_47 : TypeInfo := (Try.prog.info? 47).getD default
@[simp] theorem info_47 : Try.prog.info? 47 = some inf_47 := by kernel_rfl
@[simp] theorem infs_47 : inf_47.size = 18 := by kernel_rfl
@[simp] theorem pl_47 : placesOf Try.prog 47 = some [(0, 1), (1, 1), (2, 1), (3, 14), (17, 1)] := by kernel_rfl
attribute [simp] Try.underlying47
@[simp] theorem ti_48 : ti Try.prog 48 = some ⟨(Try.prog.underlying 48).getD .bool, 18, 192, Value.agg #[Value.int IntKind.i64 (0), Value.int IntKind.i64 (0), Value.int IntKind.i64 (0), Value.int IntKind.i64 (0), Value.int IntKind.i64 (0), Value.int IntKind.i64 (0), Value.int IntKind.i64 (0), Value.int IntKind.i64 (0), Value.int IntKind.i64 (0), Value.int IntKind.i64 (0), Value.int IntKind.i64 (0), Value.slice none 0 0, Value.string ⟨#[]⟩, Value.slice none 0 0, Value.int IntKind.i64 (0), Value.int IntKind.i64 (0), Value.int IntKind.i64 (0), Value.string ⟨#[]⟩]⟩ := by kernel_rfl
noncomputable def inf_48 : TypeInfo := (Try.prog.info? 48).getD default
@[simp] theorem info_48 : Try.prog.info? 48 = some inf_48 := by kernel_rfl
@[simp] theorem infs_48 : inf_48.size = 18 := by kernel_rfl
@[simp] theorem pl_48 : placesOf Try.prog 48 = some [(0, 1), (1, 1), (2, 1), (3, 14), (17, 1)] := by kernel_rfl
attribute [simp] Try.underlying48
@[simp] theorem ti_49 : ti Try.prog 49 = some ⟨(Try.prog.underlying 49).getD .bool, 9, 112, Value.agg #[Value.int IntKind.i64 (0), Value.int IntKind.i64 (0), Value.int IntKind.i64 (0), Value.int IntKind.i64 (0), Value.int IntKind.i64 (0), Value.slice none 0 0, Value.string ⟨#[]⟩, Value.slice none 0 0, Value.int IntKind.i64 (0)]⟩ := by kernel_rfl
noncomputable def inf_49 : TypeInfo := (Try.prog.info? 49).getD default
@[simp] theorem info_49 : Try.prog.info? 49 = some inf_49 := by kernel_rfl
@[simp] theorem infs_49 : inf_49.size = 9 := by kernel_rfl
@[simp] theorem pl_49 : placesOf Try.prog 49 = some [(0, 1), (1, 1), (2, 1), (3, 1), (4, 1), (5, 1), (6, 1), (7, 1), (8, 1)] := by kernel_rfl
attribute [simp] Try.underlying49
@[simp] theorem ti_50 : ti Try.prog 50 = some ⟨(Try.prog.underlying 50).getD .bool, 14, 152, Value.agg #[Value.int IntKind.i64 (0), Value.int IntKind.i64 (0), Value.int IntKind.i64 (0), Value.int IntKind.i64 (0), Value.int IntKind.i64 (0), Value.int IntKind.i64 (0), Value.int IntKind.i64 (0), Value.int IntKind.i64 (0), Value.slice none 0 0, Value.string ⟨#[]⟩, Value.slice none 0 0, Value.int IntKind.i64 (0), Value.int IntKind.i64 (0), Value.int IntKind.i64 (0)]⟩ := by kernel_rfl
noncomputable def inf_50 : TypeInfo := (Try.prog.info? 50).getD default
@[simp] theorem info_50 : Try.prog.info? 50 = some inf_50 := by kernel_rfl
@[simp] theorem infs_50 : inf_50.size = 14 := by kernel_rfl
@[simp] theorem pl_50 : placesOf Try.prog 50 = some [(0, 1), (1, 1), (2, 1), (3, 9), (12, 1), (13, 1)] := by kernel_rfl
attribute [simp] Try.underlying50
@[simp] theorem ti_51 : ti Try.prog 51 = some ⟨(Try.prog.underlying 51).getD .bool, 14, 152, Value.agg #[Value.int IntKind.i64 (0), Value.int IntKind.i64 (0), Value.int IntKind.i64 (0), Value.int IntKind.i64 (0), Value.int IntKind.i64 (0), Value.int IntKind.i64 (0), Value.int IntKind.i64 (0), Value.int IntKind.i64 (0), Value.slice none 0 0, Value.string ⟨#[]⟩, Value.slice none 0 0, Value.int IntKind.i64 (0), Value.int IntKind.i64 (0), Value.int IntKind.i64 (0)]⟩ := by kernel_rfl
noncomputable def inf_51 : TypeInfo := (Try.prog.info? 51).getD default
@[simp] theorem info_51 : Try.prog.info? 51 = some inf_51 := by kernel_rfl
@[simp] theorem infs_51 : inf_51.size = 14 := by kernel_rfl
@[simp] theorem pl_51 : placesOf Try.prog 51 = some [(0, 1), (1, 1), (2, 1), (3, 9), (12, 1), (13, 1)] := by kernel_rfl
attribute [simp] Try.underlying51
@[simp] theorem ti_52 : ti Try.prog 52 = some ⟨(Try.prog.underlying 52).getD .bool, 18, 192, Value.agg #[Value.int IntKind.i64 (0), Value.int IntKind.i64 (0), Value.int IntKind.i64 (0), Value.int IntKind.i64 (0), Value.int IntKind.i64 (0), Value.int IntKind.i64 (0), Value.int IntKind.i64 (0), Value.int IntKind.i64 (0), Value.int IntKind.i64 (0), Value.int IntKind.i64 (0), Value.int IntKind.i64 (0), Value.slice none 0 0, Value.string ⟨#[]⟩, Value.slice none 0 0, Value.int IntKind.i64 (0), Value.int IntKind.i64 (0), Value.int IntKind.i64 (0), Value.string ⟨#[]⟩]⟩ := by kernel_rfl
noncomputable def inf_52 : TypeInfo := (Try.prog.info? 52).getD default
@[simp] theorem info_52 : Try.prog.info? 52 = some inf_52 := by kernel_rfl
@[simp] theorem infs_52 : inf_52.size = 18 := by kernel_rfl
@[simp] theorem pl_52 : placesOf Try.prog 52 = some [(0, 1), (1, 1), (2, 1), (3, 14), (17, 1)] := by kernel_rfl
attribute [simp] Try.underlying52
@[simp] theorem ti_53 : ti Try.prog 53 = some ⟨(Try.prog.underlying 53).getD .bool, 18, 192, Value.agg #[Value.int IntKind.i64 (0), Value.int IntKind.i64 (0), Value.int IntKind.i64 (0), Value.int IntKind.i64 (0), Value.int IntKind.i64 (0), Value.int IntKind.i64 (0), Value.int IntKind.i64 (0), Value.int IntKind.i64 (0), Value.int IntKind.i64 (0), Value.int IntKind.i64 (0), Value.int IntKind.i64 (0), Value.slice none 0 0, Value.string ⟨#[]⟩, Value.slice none 0 0, Value.int IntKind.i64 (0), Value.int IntKind.i64 (0), Value.int IntKind.i64 (0), Value.string ⟨#[]⟩]⟩ := by kernel_rfl
noncomputable def inf_53 : TypeInfo := (Try.prog.info? 53).getD default
@[simp] theorem info_53 : Try.prog.info? 53 = some inf_53 := by kernel_rfl
@[simp] theorem infs_53 : inf_53.size = 18 := by kernel_rfl
@[simp] theorem pl_53 : placesOf Try.prog 53 = some [(0, 1), (1, 1), (2, 1), (3, 14), (17, 1)] := by kernel_rfl
attribute [simp] Try.underlying53
@[simp] theorem ti_54 : ti Try.prog 54 = some ⟨(Try.prog.underlying 54).getD .bool, 1, 8, Value.nilFunc⟩ := by kernel_rfl
noncomputable def inf_54 : TypeInfo := (Try.prog.info? 54).getD default
@[simp] theorem info_54 : Try.prog.info? 54 = some inf_54 := by kernel_rfl
@[simp] theorem infs_54 : inf_54.size = 1 := by kernel_rfl
attribute [simp] Try.underlying54
@[simp] theorem ti_55 : ti Try.prog 55 = some ⟨(Try.prog.underlying 55).getD .bool, 1, 8, Value.nilFunc⟩ := by kernel_rfl
noncomputable def inf_55 : TypeInfo := (Try.prog.info? 55).getD default
@[simp] theorem info_55 : Try.prog.info? 55 = some inf_55 := by kernel_rfl
@[simp] theorem infs_55 : inf_55.size = 1 := by kernel_rfl
attribute [simp] Try.underlying55
@[simp] theorem ti_56 : ti Try.prog 56 = some ⟨(Try.prog.underlying 56).getD .bool, 1, 8, Value.nilFunc⟩ := by kernel_rfl
noncomputable def inf_56 : TypeInfo := (Try.prog.info? 56).getD default
@[simp] theorem info_56 : Try.prog.info? 56 = some inf_56 := by kernel_rfl
@[simp] theorem infs_56 : inf_56.size = 1 := by kernel_rfl
attribute [simp] Try.underlying56
@[simp] theorem ti_57 : ti Try.prog 57 = some ⟨(Try.prog.underlying 57).getD .bool, 3, 32, Value.agg #[Value.int IntKind.i64 (0), Value.int IntKind.i64 (0), Value.string ⟨#[]⟩]⟩ := by kernel_rfl
noncomputable def inf_57 : TypeInfo := (Try.prog.info? 57).getD default
@[simp] theorem info_57 : Try.prog.info? 57 = some inf_57 := by kernel_rfl
@[simp] theorem infs_57 : inf_57.size = 3 := by kernel_rfl
@[simp] theorem pl_57 : placesOf Try.prog 57 = some [(0, 1), (1, 1), (2, 1)] := by kernel_rfl
@[simp] theorem pk_57 : plainKinds Try.prog 57 = some [0, 0, 2] := by kernel_rfl
attribute [simp] Try.underlying57
@[simp] theorem ti_58 : ti Try.prog 58 = some ⟨(Try.prog.underlying 58).getD .bool, 3, 32, Value.agg #[Value.int IntKind.i64 (0), Value.int IntKind.i64 (0), Value.string ⟨#[]⟩]⟩ := by kernel_rfl
noncomputable def inf_58 : TypeInfo := (Try.prog.info? 58).getD default
@[simp] theorem info_58 : Try.prog.info? 58 = some inf_58 := by kernel_rfl
@[simp] theorem infs_58 : inf_58.size = 3 := by kernel_rfl
@[simp] theorem pl_58 : placesOf Try.prog 58 = some [(0, 1), (1, 1), (2, 1)] := by kernel_rfl
@[simp] theorem pk_58 : plainKinds Try.prog 58 = some [0, 0, 2] := by kernel_rfl
attribute [simp] Try.underlying58
@[simp] theorem ti_59 : ti Try.prog 59 = some ⟨(Try.prog.underlying 59).getD .bool, 6, 56, Value.agg #[Value.int IntKind.i64 (0), Value.int IntKind.i64 (0), Value.int IntKind.i64 (0), Value.int IntKind.i64 (0), Value.int IntKind.i64 (0), Value.string ⟨#[]⟩]⟩ := by kernel_rfl
noncomputable def inf_59 : TypeInfo := (Try.prog.info? 59).getD default
@[simp] theorem info_59 : Try.prog.info? 59 = some inf_59 := by kernel_rfl
@[simp] theorem infs_59 : inf_59.size = 6 := by kernel_rfl
@[simp] theorem pl_59 : placesOf Try.prog 59 = some [(0, 1), (1, 1), (2, 1), (3, 3)] := by kernel_rfl
attribute [simp] Try.underlying59
@[simp] theorem ti_60 : ti Try.prog 60 = some ⟨(Try.prog.underlying 60).getD .bool, 6, 56, Value.agg #[Value.int IntKind.i64 (0), Value.int IntKind.i64 (0), Value.int IntKind.i64 (0), Value.int IntKind.i64 (0), Value.int IntKind.i64 (0), Value.string ⟨#[]⟩]⟩ := by kernel_rfl
noncomputable def inf_60 : TypeInfo := (Try.prog.info? 60).getD default
@[simp] theorem info_60 : Try.prog.info? 60 = some inf_60 := by kernel_rfl
@[simp] theorem infs_60 : inf_60.size = 6 := by kernel_rfl
@[simp] theorem pl_60 : placesOf Try.prog 60 = some [(0, 1), (1, 1), (2, 1), (3, 3)] := by kernel_rfl
attribute [simp] Try.underlying60
@[simp] theorem ti_61 : ti Try.prog 61 = some ⟨(Try.prog.underlying 61).getD .bool, 1, 8, Value.nilFunc⟩ := by kernel_rfl
noncomputable def inf_61 : TypeInfo := (Try.prog.info? 61).getD default
@[simp] theorem info_61 : Try.prog.info? 61 = some inf_61 := by kernel_rfl
@[simp] theorem infs_61 : inf_61.size = 1 := by kernel_rfl
attribute [simp] Try.underlying61
@[simp] theorem ti_62 : ti Try.prog 62 = some ⟨(Try.prog.underlying 62).getD .bool, 3, 32, Value.agg #[Value.int IntKind.i64 (0), Value.int IntKind.i64 (0), Value.string ⟨#[]⟩]⟩ := by kernel_rfl
noncomputable def inf_62 : TypeInfo := (Try.prog.info? 62).getD default
@[simp] theorem info_62 : Try.prog.info? 62 = some inf_62 := by kernel_rfl
@[simp] theorem infs_62 : inf_62.size = 3 := by kernel_rfl
@[simp] theorem pl_62 : placesOf Try.prog 62 = some [(0, 1), (1, 1), (2, 1)] := by kernel_rfl
@[simp] theorem pk_62 : plainKinds Try.prog 62 = some [0, 0, 2] := by kernel_rfl
attribute [simp] Try.underlying62
@[simp] theorem ti_63 : ti Try.prog 63 = some ⟨(Try.prog.underlying 63).getD .bool, 6, 56, Value.agg #[Value.int IntKind.i64 (0), Value.int IntKind.i64 (0), Value.int IntKind.i64 (0), Value.int IntKind.i64 (0), Value.int IntKind.i64 (0), Value.string ⟨#[]⟩]⟩ := by kernel_rfl
noncomputable def inf_63 : TypeInfo := (Try.prog.info? 63).getD default
@[simp] theorem info_63 : Try.prog.info? 63 = some inf_63 := by kernel_rfl
@[simp] theorem infs_63 : inf_63.size = 6 := by kernel_rfl
@[simp] theorem pl_63 : placesOf Try.prog 63 = some [(0, 1), (1, 1), (2, 1), (3, 3)] := by kernel_rfl
attribute [simp] Try.underlying63
@[simp] theorem ti_64 : ti Try.prog 64 = some ⟨(Try.prog.underlying 64).getD .bool, 6, 56, Value.agg #[Value.int IntKind.i64 (0), Value.int IntKind.i64 (0), Value.int IntKind.i64 (0), Value.int IntKind.i64 (0), Value.int IntKind.i64 (0), Value.string ⟨#[]⟩]⟩ := by kernel_rfl
noncomputable def inf_64 : TypeInfo := (Try.prog.info? 64).getD default
@[simp] theorem info_64 : Try.prog.info? 64 = some inf_64 := by kernel_rfl
@[simp] theorem infs_64 : inf_64.size = 6 := by kernel_rfl
@[simp] theorem pl_64 : placesOf Try.prog 64 = some [(0, 1), (1, 1), (2, 1), (3, 3)] := by kernel_rfl
attribute [simp] Try.underlying64
@[simp] theorem ti_65 : ti Try.prog 65 = some ⟨(Try.prog.underlying 65).getD .bool, 1, 8, Value.nilFunc⟩ := by kernel_rfl
noncomputable def inf_65 : TypeInfo := (Try.prog.info? 65).getD default
@[simp] theorem info_65 : Try.prog.info? 65 = some inf_65 := by kernel_rfl
@[simp] theorem infs_65 : inf_65.size = 1 := by kernel_rfl
attribute [simp] Try.underlying65
@[simp] theorem ti_66 : ti Try.prog 66 = some ⟨(Try.prog.underlying 66).getD .bool, 1, 8, Value.nilFunc⟩ := by kernel_rfl
noncomputable def inf_66 : TypeInfo := (Try.prog.info? 66).getD default
@[simp] theorem info_66 : Try.prog.info? 66 = some inf_66 := by kernel_rfl
@[simp] theorem infs_66 : inf_66.size = 1 := by kernel_rfl
attribute [simp] Try.underlying66
@[simp] theorem ti_67 : ti Try.prog 67 = some ⟨(Try.prog.underlying 67).getD .bool, 1, 8, Value.nilFunc⟩ := by kernel_rfl
noncomputable def inf_67 : TypeInfo := (Try.prog.info? 67).getD default
@[simp] theorem info_67 : Try.prog.info? 67 = some inf_67 := by kernel_rfl
@[simp] theorem infs_67 : inf_67.size = 1 := by kernel_rfl
attribute [simp] Try.underlying67
@[simp] theorem ti_68 : ti Try.prog 68 = some ⟨(Try.prog.underlying 68).getD .bool, 1, 8, Value.nilFunc⟩ := by kernel_rfl
noncomputable def inf_68 : TypeInfo := (Try.prog.info? 68).getD default
@[simp] theorem info_68 : Try.prog.info? 68 = some inf_68 := by kernel_rfl
@[simp] theorem infs_68 : inf_68.size = 1 := by kernel_rfl
attribute [simp] Try.underlying68
@[simp] theorem ti_69 : ti Try.prog 69 = some ⟨(Try.prog.underlying 69).getD .bool, 1, 8, Value.nilFunc⟩ := by kernel_rfl
noncomputable def inf_69 : TypeInfo := (Try.prog.info? 69).getD default
@[simp] theorem info_69 : Try.prog.info? 69 = some inf_69 := by kernel_rfl
@[simp] theorem infs_69 : inf_69.size = 1 := by kernel_rfl
attribute [simp] Try.underlying69
@[simp] theorem ti_70 : ti Try.prog 70 = some ⟨(Try.prog.underlying 70).getD .bool, 1, 8, Value.nilFunc⟩ := by kernel_rfl
noncomputable def inf_70 : TypeInfo := (Try.prog.info? 70).getD default
@[simp] theorem info_70 : Try.prog.info? 70 = some inf_70 := by kernel_rfl
@[simp] theorem infs_70 : inf_70.size = 1 := by kernel_rfl
attribute [simp] Try.underlying70
@[simp] theorem ti_71 : ti Try.prog 71 = some ⟨(Try.prog.underlying 71).getD .bool, 1, 8, Value.nilFunc⟩ := by kernel_rfl
noncomputable def inf_71 : TypeInfo := (Try.prog.info? 71).getD default
@[simp] theorem info_71 : Try.prog.info? 71 = some inf_71 := by kernel_rfl
@[simp] theorem infs_71 : inf_71.size = 1 := by kernel_rfl
attribute [simp] Try.underlying71
@[simp] theorem ti_72 : ti Try.prog 72 = some ⟨(Try.prog.underlying 72).getD .bool, 1, 8, Value.nilFunc⟩ := by kernel_rfl
noncomputable def inf_72 : TypeInfo := (Try.prog.info? 72).getD default
@[simp] theorem info_72 : Try.prog.info? 72 = some inf_72 := by kernel_rfl
@[simp] theorem infs_72 : inf_72.size = 1 := by kernel_rfl
attribute [simp] Try.underlying72
@[simp] theorem ti_73 : ti Try.prog 73 = some ⟨(Try.prog.underlying 73).getD .bool, 1, 8, Value.nilFunc⟩ := by kernel_rfl
noncomputable def inf_73 : TypeInfo := (Try.prog.info? 73).getD default
@[simp] theorem info_73 : Try.prog.info? 73 = some inf_73 := by kernel_rfl
@[simp] theorem infs_73 : inf_73.size = 1 := by kernel_rfl
attribute [simp] Try.underlying73
@[simp] theorem ti_74 : ti Try.prog 74 = some ⟨(Try.prog.underlying 74).getD .bool, 1, 8, Value.nilFunc⟩ := by kernel_rfl
noncomputable def inf_74 : TypeInfo := (Try.prog.info? 74).getD default
@[simp] theorem info_74 : Try.prog.info? 74 = some inf_74 := by kernel_rfl
@[simp] theorem infs_74 : inf_74.size = 1 := by kernel_rfl
attribute [simp] Try.underlying74
@[simp] theorem ti_75 : ti Try.prog 75 = some ⟨(Try.prog.underlying 75).getD .bool, 1, 8, Value.nilFunc⟩ := by kernel_rfl
noncomputable def inf_75 : TypeInfo := (Try.prog.info? 75).getD default
@[simp] theorem info_75 : Try.prog.info? 75 = some inf_75 := by kernel_rfl
@[simp] theorem infs_75 : inf_75.size = 1 := by kernel_rfl
attribute [simp] Try.underlying75
@[simp] theorem ti_76 : ti Try.prog 76 = some ⟨(Try.prog.underlying 76).getD .bool, 1, 8, Value.nilFunc⟩ := by kernel_rfl
noncomputable def inf_76 : TypeInfo := (Try.prog.info? 76).getD default
@[simp] theorem info_76 : Try.prog.info? 76 = some inf_76 := by kernel_rfl
@[simp] theorem infs_76 : inf_76.size = 1 := by kernel_rfl
attribute [simp] Try.underlying76
@[simp] theorem ti_77 : ti Try.prog 77 = some ⟨(Try.prog.underlying 77).getD .bool, 1, 8, Value.nilFunc⟩ := by kernel_rfl
noncomputable def inf_77 : TypeInfo := (Try.prog.info? 77).getD default
@[simp] theorem info_77 : Try.prog.info? 77 = some inf_77 := by kernel_rfl
@[simp] theorem infs_77 : inf_77.size = 1 := by kernel_rfl
attribute [simp] Try.underlying77
@[simp] theorem ti_78 : ti Try.prog 78 = some ⟨(Try.prog.underlying 78).getD .bool, 1, 24, Value.slice none 0 0⟩ := by kernel_rfl
noncomputable def inf_78 : TypeInfo := (Try.prog.info? 78).getD default
@[simp] theorem info_78 : Try.prog.info? 78 = some inf_78 := by kernel_rfl
@[simp] theorem infs_78 : inf_78.size = 1 := by kernel_rfl
attribute [simp] Try.underlying78
@[simp] theorem ti_79 : ti Try.prog 79 = some ⟨(Try.prog.underlying 79).getD .bool, 1, 8, Value.nilFunc⟩ := by kernel_rfl
noncomputable def inf_79 : TypeInfo := (Try.prog.info? 79).getD default
@[simp] theorem info_79 : Try.prog.info? 79 = some inf_79 := by kernel_rfl
@[simp] theorem infs_79 : inf_79.size = 1 := by kernel_rfl
attribute [simp] Try.underlying79
@[simp] theorem ti_80 : ti Try.prog 80 = some ⟨(Try.prog.underlying 80).getD .bool, 1, 8, Value.nilFunc⟩ := by kernel_rfl
noncomputable def inf_80 : TypeInfo := (Try.prog.info? 80).getD default
@[simp] theorem info_80 : Try.prog.info? 80 = some inf_80 := by kernel_rfl
@[simp] theorem infs_80 : inf_80.size = 1 := by kernel_rfl
attribute [simp] Try.underlying80
@[simp] theorem ti_81 : ti Try.prog 81 = some ⟨(Try.prog.underlying 81).getD .bool, 1, 8, Value.nilFunc⟩ := by kernel_rfl
noncomputable def inf_81 : TypeInfo := (Try.prog.info? 81).getD default
@[simp] theorem info_81 : Try.prog.info? 81 = some inf_81 := by kernel_rfl
@[simp] theorem infs_81 : inf_81.size = 1 := by kernel_rfl
attribute [simp] Try.underlying81
@[simp] theorem ti_82 : ti Try.prog 82 = some ⟨(Try.prog.underlying 82).getD .bool, 1, 8, Value.nilFunc⟩ := by kernel_rfl
noncomputable def inf_82 : TypeInfo := (Try.prog.info? 82).getD default
@[simp] theorem info_82 : Try.prog.info? 82 = some inf_82 := by kernel_rfl
@[simp] theorem infs_82 : inf_82.size = 1 := by kernel_rfl
attribute [simp] Try.underlying82
@[simp] theorem ti_83 : ti Try.prog 83 = some ⟨(Try.prog.underlying 83).getD .bool, 1, 8, Value.nilFunc⟩ := by kernel_rfl
noncomputable def inf_83 : TypeInfo := (Try.prog.info? 83).getD default
@[simp] theorem info_83 : Try.prog.info? 83 = some inf_83 := by kernel_rfl
@[simp] theorem infs_83 : inf_83.size = 1 := by kernel_rfl
attribute [simp] Try.underlying83
@[simp] theorem ti_84 : ti Try.prog 84 = some ⟨(Try.prog.underlying 84).getD .bool, 1, 8, Value.nilFunc⟩ := by kernel_rfl
noncomputable def inf_84 : TypeInfo := (Try.prog.info? 84).getD default
@[simp] theorem info_84 : Try.prog.info? 84 = some inf_84 := by kernel_rfl
@[simp] theorem infs_84 : inf_84.size = 1 := by kernel_rfl
attribute [simp] Try.underlying84
@[simp] theorem ti_85 : ti Try.prog 85 = some ⟨(Try.prog.underlying 85).getD .bool, 1, 8, Value.nilFunc⟩ := by kernel_rfl
noncomputable def inf_85 : TypeInfo := (Try.prog.info? 85).getD default
@[simp] theorem info_85 : Try.prog.info? 85 = some inf_85 := by kernel_rfl
@[simp] theorem infs_85 : inf_85.size = 1 := by kernel_rfl
attribute [simp] Try.underlying85
@[simp] theorem ti_86 : ti Try.prog 86 = some ⟨(Try.prog.underlying 86).getD .bool, 4, 40, Value.agg #[Value.pointer none, Value.pointer none, Value.pointer none, Value.string ⟨#[]⟩]⟩ := by kernel_rfl
noncomputable def inf_86 : TypeInfo := (Try.prog.info? 86).getD default
@[simp] theorem info_86 : Try.prog.info? 86 = some inf_86 := by kernel_rfl
@[simp] theorem infs_86 : inf_86.size = 4 := by kernel_rfl
@[simp] theorem pl_86 : placesOf Try.prog 86 = some [(0, 1), (1, 1), (2, 1), (3, 1)] := by kernel_rfl
attribute [simp] Try.underlying86
@[simp] theorem ti_87 : ti Try.prog 87 = some ⟨(Try.prog.underlying 87).getD .bool, 4, 40, Value.agg #[Value.pointer none, Value.pointer none, Value.pointer none, Value.string ⟨#[]⟩]⟩ := by kernel_rfl
noncomputable def inf_87 : TypeInfo := (Try.prog.info? 87).getD default
@[simp] theorem info_87 : Try.prog.info? 87 = some inf_87 := by kernel_rfl
@[simp] theorem infs_87 : inf_87.size = 4 := by kernel_rfl
@[simp] theorem pl_87 : placesOf Try.prog 87 = some [(0, 1), (1, 1), (2, 1), (3, 1)] := by kernel_rfl
attribute [simp] Try.underlying87
@[simp] theorem ti_89 : ti Try.prog 89 = some ⟨(Try.prog.underlying 89).getD .bool, 0, 0, Value.agg #[]⟩ := by kernel_rfl
noncomputable def inf_89 : TypeInfo := (Try.prog.info? 89).getD default
@[simp] theorem info_89 : Try.prog.info? 89 = some inf_89 := by kernel_rfl
@[simp] theorem infs_89 : inf_89.size = 0 := by kernel_rfl
@[simp] theorem pl_89 : placesOf Try.prog 89 = some [(0, 0)] := by kernel_rfl
attribute [simp] Try.underlying89
@[simp] theorem ti_90 : ti Try.prog 90 = some ⟨(Try.prog.underlying 90).getD .bool, 0, 0, Value.agg #[]⟩ := by kernel_rfl
noncomputable def inf_90 : TypeInfo := (Try.prog.info? 90).getD default
@[simp] theorem info_90 : Try.prog.info? 90 = some inf_90 := by kernel_rfl
@[simp] theorem infs_90 : inf_90.size = 0 := by kernel_rfl
@[simp] theorem pl_90 : placesOf Try.prog 90 = some [(0, 0)] := by kernel_rfl
attribute [simp] Try.underlying90
@[simp] theorem ti_91 : ti Try.prog 91 = some ⟨(Try.prog.underlying 91).getD .bool, 1, 8, Value.nilFunc⟩ := by kernel_rfl
noncomputable def inf_91 : TypeInfo := (Try.prog.info? 91).getD default
@[simp] theorem info_91 : Try.prog.info? 91 = some inf_91 := by kernel_rfl
@[simp] theorem infs_91 : inf_91.size = 1 := by kernel_rfl
attribute [simp] Try.underlying91
@[simp] theorem ti_92 : ti Try.prog 92 = some ⟨(Try.prog.underlying 92).getD .bool, 1, 4, Value.int IntKind.u32 (0)⟩ := by kernel_rfl
noncomputable def inf_92 : TypeInfo := (Try.prog.info? 92).getD default
@[simp] theorem info_92 : Try.prog.info? 92 = some inf_92 := by kernel_rfl
@[simp] theorem infs_92 : inf_92.size = 1 := by kernel_rfl
attribute [simp] Try.underlying92
@[simp] theorem ti_93 : ti Try.prog 93 = some ⟨(Try.prog.underlying 93).getD .bool, 1, 1, Value.int IntKind.u8 (0)⟩ := by kernel_rfl
noncomputable def inf_93 : TypeInfo := (Try.prog.info? 93).getD default
@[simp] theorem info_93 : Try.prog.info? 93 = some inf_93 := by kernel_rfl
@[simp] theorem infs_93 : inf_93.size = 1 := by kernel_rfl
attribute [simp] Try.underlying93
@[simp] theorem ti_94 : ti Try.prog 94 = some ⟨(Try.prog.underlying 94).getD .bool, 1, 1, Value.int IntKind.u8 (0)⟩ := by kernel_rfl
noncomputable def inf_94 : TypeInfo := (Try.prog.info? 94).getD default
@[simp] theorem info_94 : Try.prog.info? 94 = some inf_94 := by kernel_rfl
@[simp] theorem infs_94 : inf_94.size = 1 := by kernel_rfl
attribute [simp] Try.underlying94
@[simp] theorem ti_95 : ti Try.prog 95 = some ⟨(Try.prog.underlying 95).getD .bool, 1, 8, Value.nilFunc⟩ := by kernel_rfl
noncomputable def inf_95 : TypeInfo := (Try.prog.info? 95).getD default
@[simp] theorem info_95 : Try.prog.info? 95 = some inf_95 := by kernel_rfl
@[simp] theorem infs_95 : inf_95.size = 1 := by kernel_rfl
attribute [simp] Try.underlying95
@[simp] theorem ti_96 : ti Try.prog 96 = some ⟨(Try.prog.underlying 96).getD .bool, 1, 8, Value.pointer none⟩ := by kernel_rfl
noncomputable def inf_96 : TypeInfo := (Try.prog.info? 96).getD default
@[simp] theorem info_96 : Try.prog.info? 96 = some inf_96 := by kernel_rfl
@[simp] theorem infs_96 : inf_96.size = 1 := by kernel_rfl
attribute [simp] Try.underlying96
@[simp] theorem ti_97 : ti Try.prog 97 = some ⟨(Try.prog.underlying 97).getD .bool, 1, 4, Value.int IntKind.i32 (0)⟩ := by kernel_rfl
noncomputable def inf_97 : TypeInfo := (Try.prog.info? 97).getD default
@[simp] theorem info_97 : Try.prog.info? 97 = some inf_97 := by kernel_rfl
@[simp] theorem infs_97 : inf_97.size = 1 := by kernel_rfl
attribute [simp] Try.underlying97
@[simp] theorem ti_98 : ti Try.prog 98 = some ⟨(Try.prog.underlying 98).getD .bool, 1, 4, Value.int IntKind.i32 (0)⟩ := by kernel_rfl
noncomputable def inf_98 : TypeInfo := (Try.prog.info? 98).getD default
@[simp] theorem info_98 : Try.prog.info? 98 = some inf_98 := by kernel_rfl
@[simp] theorem infs_98 : inf_98.size = 1 := by kernel_rfl
attribute [simp] Try.underlying98
@[simp] theorem ti_99 : ti Try.prog 99 = some ⟨(Try.prog.underlying 99).getD .bool, 11, 48, Value.agg #[Value.int IntKind.u64 (0), Value.int IntKind.u64 (0), Value.int IntKind.u32 (0), Value.int IntKind.u8 (0), Value.int IntKind.u8 (0), Value.int IntKind.u8 (0), Value.int IntKind.u8 (0), Value.nilFunc, Value.pointer none, Value.int IntKind.i32 (0), Value.int IntKind.i32 (0)]⟩ := by kernel_rfl
noncomputable def inf_99 : TypeInfo := (Try.prog.info? 99).getD default
@[simp] theorem info_99 : Try.prog.info? 99 = some inf_99 := by kernel_rfl
@[simp] theorem infs_99 : inf_99.size = 11 := by kernel_rfl
@[simp] theorem pl_99 : placesOf Try.prog 99 = some [(0, 1), (1, 1), (2, 1), (3, 1), (4, 1), (5, 1), (6, 1), (7, 1), (8, 1), (9, 1), (10, 1)] := by kernel_rfl
attribute [simp] Try.underlying99
@[simp] theorem ti_100 : ti Try.prog 100 = some ⟨(Try.prog.underlying 100).getD .bool, 11, 48, Value.agg #[Value.int IntKind.u64 (0), Value.int IntKind.u64 (0), Value.int IntKind.u32 (0), Value.int IntKind.u8 (0), Value.int IntKind.u8 (0), Value.int IntKind.u8 (0), Value.int IntKind.u8 (0), Value.nilFunc, Value.pointer none, Value.int IntKind.i32 (0), Value.int IntKind.i32 (0)]⟩ := by kernel_rfl
noncomputable def inf_100 : TypeInfo := (Try.prog.info? 100).getD default
@[simp] theorem info_100 : Try.prog.info? 100 = some inf_100 := by kernel_rfl
@[simp] theorem infs_100 : inf_100.size = 11 := by kernel_rfl
@[simp] theorem pl_100 : placesOf Try.prog 100 = some [(0, 1), (1, 1), (2, 1), (3, 1), (4, 1), (5, 1), (6, 1), (7, 1), (8, 1), (9, 1), (10, 1)] := by kernel_rfl
attribute [simp] Try.underlying100
def mk : FuncId → Nat → Mask
  | 6, 5 => ([true, true, false, false, false, true, false, false, false, false, false, false, false, false, false, false, false, false, false, false, false, false, false, false, false, false, false], [false, true, false, false, false, false, false, false, false, false, false, false, false, false, false, false, false, false, false, false, false, false, false, false, false, false, false], [false, false, false, false, true, false, false, false, false, false, false, false, false, false, false, false, false, false, false, false, false, false, false, false, false, false, false])
  | 7, 2 => ([true, false, false, true, false, false, false, false, false, false, false, false, false, false, false, false, false, false, false, false, false, false, false, false, false, false, false, false, false, false, false, false, false, false, false, false, false, false, false, false, false], [false, false, false, false, false, false, false, false, false, false, false, false, false, false, false, false, false, false, false, false, false, false, false, false, false, false, false, false, false, false, false, false, false, false, false, false, false, false, false, false, false], [false, false, true, false, false, false, false, false, false, false, false, false, false, false, false, false, false, false, false, false, false, false, false, false, false, false, false, false, false, false, false, false, false, false, false, false, false, false, false, false, false])
  | 7, 5 => ([true, false, false, true, true, false, false, false, false, false, false, false, false, false, false, false, false, false, false, false, false, false, false, false, false, false, false, false, false, false, false, false, false, false, false, false, false, false, false, false, false], [true, false, false, true, false, false, false, false, false, false, false, false, false, false, false, false, false, false, false, false, false, false, false, false, false, false, false, false, false, false, false, false, false, false, false, false, false, false, false, false, false], [false, false, true, false, false, false, false, false, false, false, false, false, false, false, false, false, false, false, false, false, false, false, false, false, false, false, false, false, false, false, false, false, false, false, false, false, false, false, false, false, false])
  | 8, 3 => ([true, false, false, true, true, false, false, false, false, false, false, false, false, false, false, false, false, false, false, false, false, false, false], [false, false, false, true, false, false, false, false, false, false, false, false, false, false, false, false, false, false, false, false, false, false, false], [false, false, true, false, false, false, false, false, false, false, false, false, false, false, false, false, false, false, false, false, false, false, false])
  | 9, 2 => ([true, false, false, false, false, false, false, true, true, true, false, false, false, false, false, false, false, false, false, false, false, false, false, false, false, false, false, false, false, false, false, false, false], [false, false, false, false, false, false, false, false, false, false, false, false, false, false, false, false, false, false, false, false, false, false, false, false, false, false, false, false, false, false, false, false, false], [false, false, true, false, false, false, false, false, false, false, false, false, false, false, false, false, false, false, false, false, false, false, false, false, false, false, false, false, false, false, false, false, false])
  | 9, 5 => ([true, false, false, false, true, false, false, true, true, true, false, false, false, true, true, true, false, false, false, false, false, false, false, false, false, false, false, false, false, false, false, false, false], [true, false, false, false, false, false, false, true, true, true, false, false, false, false, false, false, false, false, false, false, false, false, false, false, false, false, false, false, false, false, false, false, false], [false, false, true, false, false, false, false, false, false, false, false, false, false, false, false, false, false, false, false, false, false, false, false, false, false, false, false, false, false, false, false, false, false])
  | 10, 4 => ([true, true, false, false, false, true, false, false, false, false, false, false, false, false, false, false, false, false, false, false, false, false, false, false, false, false, false], [false, false, false, false, false, false, false, false, false, false, false, false, false, false, false, false, false, false, false, false, false, false, false, false, false, false, false], [false, false, false, false, true, false, false, false, false, false, false, false, false, false, false, false, false, false, false, false, false, false, false, false, false, false, false])
  | 11, 5 => ([true, true, false, false, false, true, false, false, false, false, false, false, false, false, false, false, false, false, false, false, false, false, false, false, false, false, false], [false, true, false, false, false, false, false, false, false, false, false, false, false, false, false, false, false, false, false, false, false, false, false, false, false, false, false], [false, false, false, false, true, false, false, false, false, false, false, false, false, false, false, false, false, false, false, false, false, false, false, false, false, false, false])
  | 12, 5 => ([true, false, false, false, true, true, false, false, false, false, false, false, false, false, false, false, false, false, false, false, false, false, false, false, false, false, false, false, false, false, false, false, false, false, false, false, false, false, false, false, false], [false, false, false, false, true, false, false, false, false, false, false, false, false, false, false, false, false, false, false, false, false, false, false, false, false, false, false, false, false, false, false, false, false, false, false, false, false, false, false, false, false], [false, false, true, true, false, false, false, false, false, false, false, false, false, false, false, false, false, false, false, false, false, false, false, false, false, false, false, false, false, false, false, false, false, false, false, false, false, false, false, false, false])
  | 12, 8 => ([true, false, false, false, true, true, true, false, false, false, false, false, false, false, false, false, false, false, false, false, false, false, false, false, false, false, false, false, false, false, false, false, false, false, false, false, false, false, false, false, false], [true, false, false, false, true, true, false, false, false, false, false, false, false, false, false, false, false, false, false, false, false, false, false, false, false, false, false, false, false, false, false, false, false, false, false, false, false, false, false, false, false], [false, false, true, true, false, false, false, false, false, false, false, false, false, false, false, false, false, false, false, false, false, false, false, false, false, false, false, false, false, false, false, false, false, false, false, false, false, false, false, false, false])
  | 13, 3 => ([true, false, false, true, true, false, false, false, false, false, false, false, false, false, false, false, false, false, false, false, false, false, false], [false, false, false, true, false, false, false, false, false, false, false, false, false, false, false, false, false, false, false, false, false, false, false], [false, false, true, false, false, false, false, false, false, false, false, false, false, false, false, false, false, false, false, false, false, false, false])
  | 14, 4 => ([true, false, false, false, true, false, false, false, false, false, false, false, false, false, false, false, false, false, false, false, false, false, false], [false, false, false, false, false, false, false, false, false, false, false, false, false, false, false, false, false, false, false, false, false, false, false], [false, false, true, true, false, false, false, false, false, false, false, false, false, false, false, false, false, false, false, false, false, false, false])
  | 15, 4 => ([true, true, false, false, false, true, false, false, false, false, false, false, false, false, false, false, false, false, false, false, false, false, false, false, false, false, false], [false, false, false, false, false, false, false, false, false, false, false, false, false, false, false, false, false, false, false, false, false, false, false, false, false, false, false], [false, false, false, false, true, false, false, false, false, false, false, false, false, false, false, false, false, false, false, false, false, false, false, false, false, false, false])
  | 16, 4 => ([true, true, false, false, false, true, false, false, false, false, false, false, false, false, false, false, false, false, false, false, false, false, false, false, false, false, false], [false, false, false, false, false, false, false, false, false, false, false, false, false, false, false, false, false, false, false, false, false, false, false, false, false, false, false], [false, false, false, false, true, false, false, false, false, false, false, false, false, false, false, false, false, false, false, false, false, false, false, false, false, false, false])
  | 17, 2 => ([true, true, false, false, false, true, false, false, false, false, false, false, false, false, false, false, false, false, false, false, false, false, false, false, false, false, false, false, false, false, false, false, false, false, false, false, false, false, false, false, false, false, false, false, false, false, false, false, false, false, false, false, false, false, false, false, false, false, false], [false, true, false, false, false, false, false, false, false, false, false, false, false, false, false, false, false, false, false, false, false, false, false, false, false, false, false, false, false, false, false, false, false, false, false, false, false, false, false, false, false, false, false, false, false, false, false, false, false, false, false, false, false, false, false, false, false, false, false], [false, false, false, false, true, false, false, false, false, false, false, false, false, false, false, false, false, false, false, false, false, false, false, false, false, false, false, false, false, false, false, false, false, false, false, false, false, false, false, false, false, false, false, false, false, false, false, false, false, false, false, false, false, false, false, false, false, false, false])
  | 18, 2 => ([true, true, false, false, false, true, false, false, false, false, false, false, false, false, false, false, false, false, false, false, false, false, false, false, false, false, false, false, false, false, false, false, false, false, false], [false, true, false, false, false, false, false, false, false, false, false, false, false, false, false, false, false, false, false, false, false, false, false, false, false, false, false, false, false, false, false, false, false, false, false], [false, false, false, false, true, false, false, false, false, false, false, false, false, false, false, false, false, false, false, false, false, false, false, false, false, false, false, false, false, false, false, false, false, false, false])
  | 19, 2 => ([true, true, false, false, false, true, false, false, false, false, false, false, false, false, false, false, false, false, false, false, false, false, false, false, false, false, false, false, false, false, false, false, false, false, false, false, false, false, false, false, false], [false, true, false, false, false, false, false, false, false, false, false, false, false, false, false, false, false, false, false, false, false, false, false, false, false, false, false, false, false, false, false, false, false, false, false, false, false, false, false, false, false], [false, false, false, false, true, false, false, false, false, false, false, false, false, false, false, false, false, false, false, false, false, false, false, false, false, false, false, false, false, false, false, false, false, false, false, false, false, false, false, false, false])
  | 20, 2 => ([true, false, false, true, false, false, false, false, false, false, false, false, false, false, false, false, false, false, false, false, false, false, false, false, false, false, false, false, false, false, false, false, false, false, false, false, false, false, false, false, false, false, false, false, false, false, false, false, false, false, false, false, false, false, false, false, false, false, false, false, false, false, false, false, false, false, false], [false, false, false, false, false, false, false, false, false, false, false, false, false, false, false, false, false, false, false, false, false, false, false, false, false, false, false, false, false, false, false, false, false, false, false, false, false, false, false, false, false, false, false, false, false, false, false, false, false, false, false, false, false, false, false, false, false, false, false, false, false, false, false, false, false, false, false], [false, false, true, false, false, false, false, false, false, false, false, false, false, false, false, false, false, false, false, false, false, false, false, false, false, false, false, false, false, false, false, false, false, false, false, false, false, false, false, false, false, false, false, false, false, false, false, false, false, false, false, false, false, false, false, false, false, false, false, false, false, false, false, false, false, false, false])
  | 20, 5 => ([true, false, false, true, true, false, false, false, false, false, false, false, false, false, false, false, false, false, false, false, false, false, false, false, false, false, false, false, false, false, false, false, false, false, false, false, false, false, false, false, false, false, false, false, false, false, false, false, false, false, false, false, false, false, false, false, false, false, false, false, false, false, false, false, false, false, false], [true, false, false, true, false, false, false, false, false, false, false, false, false, false, false, false, false, false, false, false, false, false, false, false, false, false, false, false, false, false, false, false, false, false, false, false, false, false, false, false, false, false, false, false, false, false, false, false, false, false, false, false, false, false, false, false, false, false, false, false, false, false, false, false, false, false, false], [false, false, true, false, false, false, false, false, false, false, false, false, false, false, false, false, false, false, false, false, false, false, false, false, false, false, false, false, false, false, false, false, false, false, false, false, false, false, false, false, false, false, false, false, false, false, false, false, false, false, false, false, false, false, false, false, false, false, false, false, false, false, false, false, false, false, false])
  | 21, 3 => ([true, false, false, true, false, false, false, false, true, true, true, false, false, false, false, false, false, false, false, false, false, false, false, false, false, false, false, false, false, false, false, false, false, false, false, false, false, false, false, false, false, false, false, false, false, false, false, false, false, false, false, false, false, false, false], [false, false, false, false, false, false, false, false, false, false, false, false, false, false, false, false, false, false, false, false, false, false, false, false, false, false, false, false, false, false, false, false, false, false, false, false, false, false, false, false, false, false, false, false, false, false, false, false, false, false, false, false, false, false, false], [false, false, true, false, false, false, false, false, false, false, false, false, false, false, false, false, false, false, false, false, false, false, false, false, false, false, false, false, false, false, false, false, false, false, false, false, false, false, false, false, false, false, false, false, false, false, false, false, false, false, false, false, false, false, false])
  | 21, 6 => ([true, false, false, true, false, true, false, false, true, true, true, false, false, false, true, true, true, false, false, false, false, false, false, false, false, false, false, false, false, false, false, false, false, false, false, false, false, false, false, false, false, false, false, false, false, false, false, false, false, false, false, false, false, false, false], [true, false, false, true, false, false, false, false, true, true, true, false, false, false, false, false, false, false, false, false, false, false, false, false, false, false, false, false, false, false, false, false, false, false, false, false, false, false, false, false, false, false, false, false, false, false, false, false, false, false, false, false, false, false, false], [false, false, true, false, false, false, false, false, false, false, false, false, false, false, false, false, false, false, false, false, false, false, false, false, false, false, false, false, false, false, false, false, false, false, false, false, false, false, false, false, false, false, false, false, false, false, false, false, false, false, false, false, false, false, false])
  | 26, 2 => ([true, false, false, true, false, false, false, false, false, false, false, false, false, false, false, false, false, false, false, false, false, false, false, false, false, false, false, false, false, false, false, false, false, false, false, false, false, false, false, false], [false, false, false, false, false, false, false, false, false, false, false, false, false, false, false, false, false, false, false, false, false, false, false, false, false, false, false, false, false, false, false, false, false, false, false, false, false, false, false, false], [false, false, true, false, false, false, false, false, false, false, false, false, false, false, false, false, false, false, false, false, false, false, false, false, false, false, false, false, false, false, false, false, false, false, false, false, false, false, false, false])
  | 26, 5 => ([true, false, false, true, true, false, false, false, false, false, false, false, false, false, false, false, false, false, false, false, false, false, false, false, false, false, false, false, false, false, false, false, false, false, false, false, false, false, false, false], [true, false, false, true, false, false, false, false, false, false, false, false, false, false, false, false, false, false, false, false, false, false, false, false, false, false, false, false, false, false, false, false, false, false, false, false, false, false, false, false], [false, false, true, false, false, false, false, false, false, false, false, false, false, false, false, false, false, false, false, false, false, false, false, false, false, false, false, false, false, false, false, false, false, false, false, false, false, false, false, false])
  | 28, 2 => ([true, false, false, false, false, false, false, true, true, true, false, false, false, false, false, false, false, false, false, false, false, false, false, false, false, false, false, false, false, false, false, false, false], [false, false, false, false, false, false, false, false, false, false, false, false, false, false, false, false, false, false, false, false, false, false, false, false, false, false, false, false, false, false, false, false, false], [false, false, true, false, false, false, false, false, false, false, false, false, false, false, false, false, false, false, false, false, false, false, false, false, false, false, false, false, false, false, false, false, false])
  | 28, 5 => ([true, false, false, false, true, false, false, true, true, true, false, false, false, true, true, true, false, false, false, false, false, false, false, false, false, false, false, false, false, false, false, false, false], [true, false, false, false, false, false, false, true, true, true, false, false, false, false, false, false, false, false, false, false, false, false, false, false, false, false, false, false, false, false, false, false, false], [false, false, true, false, false, false, false, false, false, false, false, false, false, false, false, false, false, false, false, false, false, false, false, false, false, false, false, false, false, false, false, false, false])
  | 29, 2 => ([true, true, false, false, false, false, false, true, true, false, false, false, false, false, false, false, false, false, false], [false, false, false, false, false, false, false, false, false, false, false, false, false, false, false, false, false, false, false], [false, false, false, false, true, false, false, false, false, false, false, false, false, false, false, false, false, false, false])
  | 33, 4 => ([true, false, false, true, false, false, false, false, false, false, false, false, false, false, false, false, false, false, false, false], [false, false, false, true, false, false, false, false, false, false, false, false, false, false, false, false, false, false, false, false], [false, false, true, false, false, false, false, false, false, false, false, false, false, false, false, false, false, false, false, false])
  | 45, 3 => ([true, false, false, true, true, false, false, false, false, false, false, false, false, false, false, false, false, false, false, false, false, false], [false, false, false, true, false, false, false, false, false, false, false, false, false, false, false, false, false, false, false, false, false, false], [false, false, true, false, false, false, false, false, false, false, false, false, false, false, false, false, false, false, false, false, false, false])
  | 46, 4 => ([true, true, false, false, false, true, false, false, false, false, false, false, false, false, false, false, false, false, false, false, false, false, false, false, false, false], [false, false, false, false, false, false, false, false, false, false, false, false, false, false, false, false, false, false, false, false, false, false, false, false, false, false], [false, false, false, false, true, false, false, false, false, false, false, false, false, false, false, false, false, false, false, false, false, false, false, false, false, false])
  | _, _ => ([], [], [])
end Go.Proofs.Ytjleanfcjipofaa.Eng
