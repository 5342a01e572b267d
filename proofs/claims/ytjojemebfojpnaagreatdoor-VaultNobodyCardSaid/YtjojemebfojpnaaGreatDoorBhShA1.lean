/- Printed by wip/tools/gen.py: what the functions do, on data values. -/
import Derived.Test.YtjojemebfojpnaaGreatDoorBhB
import Derived.Test.YtjojemebfojpnaaGreatDoorBhTabA
import Derived.KernelRfl
set_option linter.unusedVariables false
set_option maxRecDepth 100000
namespace Go.Dv.A
open Go Go.Proofs Go.Dv
noncomputable abbrev T := Tryz.types
def G0 : Nat → Option (List DV) := fun _ => none
@[simp] theorem und_3 : T.underlying 3 = some (.int .i64) := by kernel_rfl
@[simp] theorem und_5 : T.underlying 5 = some (.int .u8) := by kernel_rfl
@[simp] theorem und_9 : T.underlying 9 = some .string := by kernel_rfl
@[simp] theorem und_23 : T.underlying 23 = some (.pointer 26) := by kernel_rfl
@[simp] theorem und_24 : T.underlying 24 = some (.pointer 96) := by kernel_rfl
@[simp] theorem und_27 : T.underlying 27 = some (.slice 23) := by kernel_rfl
@[simp] theorem und_28 : T.underlying 28 = some (.int .i64) := by kernel_rfl
@[simp] theorem und_32 : T.underlying 32 = some (.slice 9) := by kernel_rfl
@[simp] theorem und_74 : T.underlying 74 = some (.slice 5) := by kernel_rfl
@[simp] theorem und_153 : T.underlying 153 = some (.int .u32) := by kernel_rfl
@[simp] theorem und_202 : T.underlying 202 = some (.array 16 153) := by kernel_rfl
@[simp] theorem size_5 : sizeD T 5 = some 1 := by kernel_rfl
@[simp] theorem size_9 : sizeD T 9 = some 1 := by kernel_rfl
@[simp] theorem size_23 : sizeD T 23 = some 1 := by kernel_rfl
@[simp] theorem size_153 : sizeD T 153 = some 1 := by kernel_rfl
@[simp] theorem bytes_5 : bytesD T 5 = some 1 := by kernel_rfl
@[simp] theorem bytes_9 : bytesD T 9 = some 16 := by kernel_rfl
@[simp] theorem bytes_23 : bytesD T 23 = some 8 := by kernel_rfl
@[simp] theorem agg_9 : aggD T 9 = some false := by kernel_rfl
@[simp] theorem agg_23 : aggD T 23 = some false := by kernel_rfl
@[simp] theorem agg_153 : aggD T 153 = some false := by kernel_rfl
@[simp] theorem zero_5 : zeroD T 5 = some (.int .u8 0) := by kernel_rfl
@[simp] theorem zero_9 : zeroD T 9 = some (.str []) := by kernel_rfl
@[simp] theorem zero_23 : zeroD T 23 = some .nilp := by kernel_rfl
@[simp] theorem zero_26 : zeroD T 26 = some (.agg [.nilp, (.int .i64 0), (.int .i64 0), (.int .i64 0), (.int .i64 0), (.bool false)]) := by kernel_rfl
/- f3: backhaul/backhaullaw12.VaultNobody -/
noncomputable def L3_0 (c : Cx) (K : Ex → Fr → Store → Option (DV × Store)) : (Fr → Store → Option (DV × Store)) → Fr → Store → Option (DV × Store) := roundB T G0 c.call c.ro c.lim c.k Tryz.f3 [1, 1, 1, 1, 0, 1, 0, 0] K
noncomputable def K3_0 (c : Cx) : Ex → Fr → Store → Option (DV × Store) := restB T G0 c.call c.ro c.lim c.k Tryz.f3 [] [1, 1, 1, 1, 0, 1, 0] (finB T c.dcall false Tryz.f3)
noncomputable def D3_0 : List Nat := deadC (codeIn Tryz.f3 [1, 1, 1, 1, 0, 1, 0, 0]).1 (codeIn Tryz.f3 [1, 1, 1, 1, 0, 1, 0, 0]).2
theorem S3_eq (c : Cx) (x0 x1 : DV) (S : Store) : bodyX T G0 c false Tryz.f3 [x0, x1] S =
  (lenD T 9 x0 S).bind fun v1 =>
  (binD T .gtr 3 v1.1 (.int .i64 3100)).bind fun v2 =>
  condB v2
  ((c.call 7 [] v1.2.1).bind fun v3 =>
  some (v3.1, v3.2.1))
  ((buildD T 26 []).bind fun v4 =>
  (boxD v1.2.1 26 v4).bind fun v5 =>
  (buildSliceD T v5.2 27 2 [(0, .nilp), (1, v5.1)]).bind fun v6 =>
  iterD c.k (L3_0 c (K3_0 c)) ⟨[x0, x1, (.tup []), (.tup []), (.bool false), .nilp, v6.1, (.int .i64 0), (.tup []), (.tup []), (.tup []), (.tup []), (.tup []), x0, v1.1, v2, (.tup []), .nilp, v4, v5.1, v6.1, (.tup []), (.tup []), (.tup []), (.tup []), (.tup []), (.tup []), (.tup []), (.tup []), (.tup []), (.tup []), (.tup []), (.tup []), (.tup []), (.tup []), (.tup []), (.tup []), (.tup []), (.tup []), (.tup []), (.tup []), (.tup []), (.tup []), (.tup []), (.tup []), (.tup []), (.tup []), (.tup []), (.tup []), (.tup []), (.tup []), (.tup []), (.tup []), (.tup []), (.tup []), (.tup []), (.tup []), (.tup []), (.tup []), (.tup []), (.tup []), (.tup []), (.tup []), (.tup []), (.tup []), (.tup []), (.tup []), (.tup []), (.tup []), (.tup []), (.tup []), (.tup []), (.tup []), (.tup []), (.tup []), (.tup []), (.tup []), (.tup []), (.tup []), (.tup []), (.tup []), (.tup []), (.tup [])], []⟩ v6.2.1) := by kernel_rfl
theorem D3_0_eq (g : Fr → Store → Option (DV × Store)) (K : Ex → Fr → Store → Option (DV × Store)) (x0 x1 x2 x3 x4 x5 x6 x7 x8 x9 x10 x11 x12 x13 x14 x15 x16 x17 x18 x19 x20 x21 x22 x23 x24 x25 x26 x27 x28 x29 x30 x31 x32 x33 x34 x35 x36 x37 x38 x39 x40 x41 x42 x43 x44 x45 x46 x47 x48 x49 x50 x51 x52 x53 x54 x55 x56 x57 x58 x59 x60 x61 x62 x63 x64 x65 x66 x67 x68 x69 x70 x71 x72 x73 x74 x75 x76 x77 x78 x79 x80 x81 x82 : DV) (S : Store) : roundK D3_0 g K .normal ⟨[x0, x1, x2, x3, x4, x5, x6, x7, x8, x9, x10, x11, x12, x13, x14, x15, x16, x17, x18, x19, x20, x21, x22, x23, x24, x25, x26, x27, x28, x29, x30, x31, x32, x33, x34, x35, x36, x37, x38, x39, x40, x41, x42, x43, x44, x45, x46, x47, x48, x49, x50, x51, x52, x53, x54, x55, x56, x57, x58, x59, x60, x61, x62, x63, x64, x65, x66, x67, x68, x69, x70, x71, x72, x73, x74, x75, x76, x77, x78, x79, x80, x81, x82], []⟩ S = g ⟨[x0, x1, x2, x3, x4, x5, x6, x7, .undef, x9, x10, x11, x12, x13, x14, x15, x16, x17, x18, x19, x20, .undef, .undef, .undef, .undef, .undef, .undef, .undef, .undef, .undef, .undef, .undef, .undef, .undef, .undef, .undef, x36, x37, x38, x39, .undef, .undef, x42, x43, x44, .undef, .undef, x47, x48, x49, .undef, .undef, x52, x53, x54, .undef, .undef, x57, x58, x59, .undef, .undef, x62, x63, x64, .undef, x66, x67, x68, x69, x70, x71, x72, x73, x74, x75, x76, x77, x78, x79, x80, x81, x82], []⟩ S := by kernel_rfl
theorem L3_0_eq (c : Cx) (K : Ex → Fr → Store → Option (DV × Store)) (g : Fr → Store → Option (DV × Store)) (x0 x1 x2 x3 x4 x5 x6 x7 x8 x9 x10 x11 x12 x13 x14 x15 x16 x17 x18 x19 x20 x21 x22 x23 x24 x25 x26 x27 x28 x29 x30 x31 x32 x33 x34 x35 x36 x37 x38 x39 x40 x41 x42 x43 x44 x45 x46 x47 x48 x49 x50 x51 x52 x53 x54 x55 x56 x57 x58 x59 x60 x61 x62 x63 x64 x65 x66 x67 x68 x69 x70 x71 x72 x73 x74 x75 x76 x77 x78 x79 x80 x81 x82 : DV) (S : Store) : L3_0 c K g ⟨[x0, x1, x2, x3, x4, x5, x6, x7, x8, x9, x10, x11, x12, x13, x14, x15, x16, x17, x18, x19, x20, x21, x22, x23, x24, x25, x26, x27, x28, x29, x30, x31, x32, x33, x34, x35, x36, x37, x38, x39, x40, x41, x42, x43, x44, x45, x46, x47, x48, x49, x50, x51, x52, x53, x54, x55, x56, x57, x58, x59, x60, x61, x62, x63, x64, x65, x66, x67, x68, x69, x70, x71, x72, x73, x74, x75, x76, x77, x78, x79, x80, x81, x82], []⟩ S =
  (lenD T 27 x6 S).bind fun v7 =>
  (binD T .lss 3 x7 v7.1).bind fun v8 =>
  condB v8
  ((indexAddrD T 27 x6 x7).bind fun v9 =>
  (loadD false 1 v7.2.1 v9).bind fun v10 =>
  (c.call 8 [v10, x0] v7.2.1).bind fun v11 =>
  (eqB T .neq 28 false true v11.1 (.int .i64 1)).bind fun v12 =>
  (guardO v11.2.1 v12 false (some (v10, v11.2.1, .pure))).bind fun v13 =>
  (guardO v13.2.1 v12 false (some (x0, v13.2.1, .pure))).bind fun v14 =>
  (guardO v14.2.1 v12 false ((c.call 9 [v13.1, v14.1] v14.2.1).bind fun p => some (p.1, p.2.1, p.2.2))).bind fun v15 =>
  (guardO v15.2.1 v12 false ((eqB T .neq 28 false true v15.1 (.int .i64 1)).bind fun d => some (d, v15.2.1, .pure))).bind fun v16 =>
  (pickD v12 (.bool true) v16.1).bind fun v17 =>
  (guardO v16.2.1 v17 false (some (v10, v16.2.1, .pure))).bind fun v18 =>
  (guardO v18.2.1 v17 false (some (x0, v18.2.1, .pure))).bind fun v19 =>
  (guardO v19.2.1 v17 false ((c.call 10 [v18.1, v19.1] v19.2.1).bind fun p => some (p.1, p.2.1, p.2.2))).bind fun v20 =>
  (pickD v17 (.bool true) v20.1).bind fun v21 =>
  (guardO v20.2.1 v21 false (some (v10, v20.2.1, .pure))).bind fun v22 =>
  (guardO v22.2.1 v21 false (some (x0, v22.2.1, .pure))).bind fun v23 =>
  (guardO v23.2.1 v21 false ((c.call 11 [v22.1, v23.1] v23.2.1).bind fun p => some (p.1, p.2.1, p.2.2))).bind fun v24 =>
  (pickD v21 (.bool true) v24.1).bind fun v25 =>
  (guardO v24.2.1 v25 false (some (v10, v24.2.1, .pure))).bind fun v26 =>
  (guardO v26.2.1 v25 false ((c.call 12 [v26.1] v26.2.1).bind fun p => some (p.1, p.2.1, p.2.2))).bind fun v27 =>
  (guardO v27.2.1 v25 false ((eqB T .neq 3 false true v27.1 (.int .i64 0)).bind fun d => some (d, v27.2.1, .pure))).bind fun v28 =>
  (pickD v25 (.bool true) v28.1).bind fun v29 =>
  (guardO v28.2.1 v29 false (some (v10, v28.2.1, .pure))).bind fun v30 =>
  (guardO v30.2.1 v29 false ((c.call 13 [v30.1] v30.2.1).bind fun p => some (p.1, p.2.1, p.2.2))).bind fun v31 =>
  (guardO v31.2.1 v29 false ((eqB T .neq 3 false true v31.1 (.int .i64 0)).bind fun d => some (d, v31.2.1, .pure))).bind fun v32 =>
  (pickD v29 (.bool true) v32.1).bind fun v33 =>
  (guardO v32.2.1 v33 false (some (v10, v32.2.1, .pure))).bind fun v34 =>
  (guardO v34.2.1 v33 false ((c.call 14 [v34.1] v34.2.1).bind fun p => some (p.1, p.2.1, p.2.2))).bind fun v35 =>
  (guardO v35.2.1 v33 false ((unD .not v35.1).bind fun d => some (d, v35.2.1, .pure))).bind fun v36 =>
  (pickD v33 (.bool true) v36.1).bind fun v37 =>
  condB v37
  (K .ret ⟨[x0, x1, x2, x3, (.bool false), x5, x6, x7, v10, x9, x10, x11, x12, x13, x14, x15, x16, x17, x18, x19, x20, x7, x6, v7.1, v8, x25, x26, x6, x7, v9, v10, v10, x0, v11.1, v12, v12, v13.1, v14.1, v15.1, v16.1, v17, v17, v18.1, v19.1, v20.1, v21, v21, v22.1, v23.1, v24.1, v25, v25, v26.1, v27.1, v28.1, v29, v29, v30.1, v31.1, v32.1, v33, v33, v34.1, v35.1, v36.1, v37, x66, x67, x68, x69, x70, x71, x72, x73, x74, x75, x76, x77, x78, x79, x80, x81, x82], []⟩ v36.2.1)
  ((binD T .add 3 x7 (.int .i64 1)).bind fun v38 =>
  g ⟨[x0, x1, x2, x3, x4, x5, x6, v38, .undef, x9, x10, x11, x12, x13, x14, x15, x16, x17, x18, x19, x20, .undef, .undef, .undef, .undef, .undef, .undef, .undef, .undef, .undef, .undef, .undef, .undef, .undef, .undef, .undef, v13.1, v14.1, v15.1, v16.1, .undef, .undef, v18.1, v19.1, v20.1, .undef, .undef, v22.1, v23.1, v24.1, .undef, .undef, v26.1, v27.1, v28.1, .undef, .undef, v30.1, v31.1, v32.1, .undef, .undef, v34.1, v35.1, v36.1, .undef, x66, x67, x68, x69, x70, x71, x72, x73, x74, x75, x76, x77, x78, x79, x80, x81, x82], []⟩ v36.2.1))
  (K (.exit 0) ⟨[x0, x1, x2, x3, x4, x5, x6, x7, x8, x9, x10, x11, x12, x13, x14, x15, x16, x17, x18, x19, x20, x7, x6, v7.1, v8, x25, x26, x27, x28, x29, x30, x31, x32, x33, x34, x35, x36, x37, x38, x39, x40, x41, x42, x43, x44, x45, x46, x47, x48, x49, x50, x51, x52, x53, x54, x55, x56, x57, x58, x59, x60, x61, x62, x63, x64, x65, x66, x67, x68, x69, x70, x71, x72, x73, x74, x75, x76, x77, x78, x79, x80, x81, x82], []⟩ v7.2.1) := by kernel_rfl
theorem K3_0_0 (c : Cx) (x0 x1 x2 x3 x4 x5 x6 x7 x8 x9 x10 x11 x12 x13 x14 x15 x16 x17 x18 x19 x20 x21 x22 x23 x24 x25 x26 x27 x28 x29 x30 x31 x32 x33 x34 x35 x36 x37 x38 x39 x40 x41 x42 x43 x44 x45 x46 x47 x48 x49 x50 x51 x52 x53 x54 x55 x56 x57 x58 x59 x60 x61 x62 x63 x64 x65 x66 x67 x68 x69 x70 x71 x72 x73 x74 x75 x76 x77 x78 x79 x80 x81 x82 : DV) (S : Store) : K3_0 c (.exit 0) ⟨[x0, x1, x2, x3, x4, x5, x6, x7, x8, x9, x10, x11, x12, x13, x14, x15, x16, x17, x18, x19, x20, x21, x22, x23, x24, x25, x26, x27, x28, x29, x30, x31, x32, x33, x34, x35, x36, x37, x38, x39, x40, x41, x42, x43, x44, x45, x46, x47, x48, x49, x50, x51, x52, x53, x54, x55, x56, x57, x58, x59, x60, x61, x62, x63, x64, x65, x66, x67, x68, x69, x70, x71, x72, x73, x74, x75, x76, x77, x78, x79, x80, x81, x82], []⟩ S =
  (c.call 15 [.nilp, x1, x0] S).bind fun v39 =>
  (extrD v39.1 0).bind fun v40 =>
  (extrD v39.1 1).bind fun v41 =>
  (extrD v39.1 2).bind fun v42 =>
  (extrD v39.1 3).bind fun v43 =>
  (eqB T .eql 23 false true v40 .nilp).bind fun v44 =>
  (guardO v39.2.1 v44 true (some (v43, v39.2.1, .pure))).bind fun v45 =>
  (guardO v45.2.1 v44 true ((eqB T .eql 28 false true v45.1 (.int .i64 1)).bind fun d => some (d, v45.2.1, .pure))).bind fun v46 =>
  (pickD v44 v46.1 (.bool false)).bind fun v47 =>
  (guardO v46.2.1 v47 true ((c.call 7 [] v46.2.1).bind fun p => some (p.1, p.2.1, p.2.2))).bind fun v48 =>
  (pickD v47 v48.1 (.bool false)).bind fun v49 =>
  some (v49, v48.2.1) := by kernel_rfl
theorem K3_0_r (c : Cx) (x0 x1 x2 x3 x4 x5 x6 x7 x8 x9 x10 x11 x12 x13 x14 x15 x16 x17 x18 x19 x20 x21 x22 x23 x24 x25 x26 x27 x28 x29 x30 x31 x32 x33 x34 x35 x36 x37 x38 x39 x40 x41 x42 x43 x44 x45 x46 x47 x48 x49 x50 x51 x52 x53 x54 x55 x56 x57 x58 x59 x60 x61 x62 x63 x64 x65 x66 x67 x68 x69 x70 x71 x72 x73 x74 x75 x76 x77 x78 x79 x80 x81 x82 : DV) (S : Store) : K3_0 c (.ret) ⟨[x0, x1, x2, x3, x4, x5, x6, x7, x8, x9, x10, x11, x12, x13, x14, x15, x16, x17, x18, x19, x20, x21, x22, x23, x24, x25, x26, x27, x28, x29, x30, x31, x32, x33, x34, x35, x36, x37, x38, x39, x40, x41, x42, x43, x44, x45, x46, x47, x48, x49, x50, x51, x52, x53, x54, x55, x56, x57, x58, x59, x60, x61, x62, x63, x64, x65, x66, x67, x68, x69, x70, x71, x72, x73, x74, x75, x76, x77, x78, x79, x80, x81, x82], []⟩ S =
  some (x4, S) := by kernel_rfl
/- f7: backhaul/backhaullaw12.awake -/
theorem S7_eq (c : Cx) (S : Store) : bodyX T G0 c false Tryz.f7 [] S =
  (c.call 18 [(.int .i64 12)] S).bind fun v1 =>
  (extrD v1.1 0).bind fun v2 =>
  (extrD v1.1 1).bind fun v3 =>
  (eqB T .neq 28 false true v3 (.int .i64 0)).bind fun v4 =>
  (guardO v1.2.1 v4 false (some (v2, v1.2.1, .pure))).bind fun v5 =>
  (guardO v5.2.1 v4 false ((eqB T .eql 24 false true v5.1 .nilp).bind fun d => some (d, v5.2.1, .pure))).bind fun v6 =>
  (pickD v4 (.bool true) v6.1).bind fun v7 =>
  condB v7
  (some ((.bool false), v6.2.1))
  ((c.call 15 [v2, (.int .i64 2), (.str [102, 105, 114, 115, 116])] v6.2.1).bind fun v8 =>
  (extrD v8.1 0).bind fun v9 =>
  (extrD v8.1 1).bind fun v10 =>
  (extrD v8.1 2).bind fun v11 =>
  (extrD v8.1 3).bind fun v12 =>
  (eqB T .neq 28 false true v12 (.int .i64 0)).bind fun v13 =>
  (guardO v8.2.1 v13 false (some (v9, v8.2.1, .pure))).bind fun v14 =>
  (guardO v14.2.1 v13 false ((eqB T .eql 23 false true v14.1 .nilp).bind fun d => some (d, v14.2.1, .pure))).bind fun v15 =>
  (pickD v13 (.bool true) v15.1).bind fun v16 =>
  condB v16
  (some ((.bool false), v15.2.1))
  ((c.call 8 [v9, (.str [111, 110, 101])] v15.2.1).bind fun v17 =>
  (c.call 9 [v9, (.str [115, 101, 99, 111, 110, 100])] v17.2.1).bind fun v18 =>
  (c.call 8 [v9, (.str [116, 119, 111])] v18.2.1).bind fun v19 =>
  (c.call 15 [v2, (.int .i64 2), (.str [])] v19.2.1).bind fun v20 =>
  (extrD v20.1 0).bind fun v21 =>
  (extrD v20.1 1).bind fun v22 =>
  (extrD v20.1 2).bind fun v23 =>
  (extrD v20.1 3).bind fun v24 =>
  (c.call 15 [v2, (.int .i64 6), (.str [])] v20.2.1).bind fun v25 =>
  (extrD v25.1 0).bind fun v26 =>
  (extrD v25.1 1).bind fun v27 =>
  (extrD v25.1 2).bind fun v28 =>
  (extrD v25.1 3).bind fun v29 =>
  (eqB T .eql 9 false true v10 (.str [102, 105, 114, 115, 116])).bind fun v30 =>
  (guardO v25.2.1 v30 true (some (v11, v25.2.1, .pure))).bind fun v31 =>
  (guardO v31.2.1 v30 true ((lenD T 32 v31.1 v31.2.1).bind fun p => some (p.1, p.2.1, p.2.2))).bind fun v32 =>
  (guardO v32.2.1 v30 true ((eqB T .eql 3 false true v32.1 (.int .i64 0)).bind fun d => some (d, v32.2.1, .pure))).bind fun v33 =>
  (pickD v30 v33.1 (.bool false)).bind fun v34 =>
  (guardO v33.2.1 v34 true (some (v17.1, v33.2.1, .pure))).bind fun v35 =>
  (guardO v35.2.1 v34 true ((eqB T .eql 28 false true v35.1 (.int .i64 0)).bind fun d => some (d, v35.2.1, .pure))).bind fun v36 =>
  (pickD v34 v36.1 (.bool false)).bind fun v37 =>
  (guardO v36.2.1 v37 true (some (v18.1, v36.2.1, .pure))).bind fun v38 =>
  (guardO v38.2.1 v37 true ((eqB T .eql 28 false true v38.1 (.int .i64 0)).bind fun d => some (d, v38.2.1, .pure))).bind fun v39 =>
  (pickD v37 v39.1 (.bool false)).bind fun v40 =>
  (guardO v39.2.1 v40 true (some (v19.1, v39.2.1, .pure))).bind fun v41 =>
  (guardO v41.2.1 v40 true ((eqB T .eql 28 false true v41.1 (.int .i64 0)).bind fun d => some (d, v41.2.1, .pure))).bind fun v42 =>
  (pickD v40 v42.1 (.bool false)).bind fun v43 =>
  (guardO v42.2.1 v43 true (some (v24, v42.2.1, .pure))).bind fun v44 =>
  (guardO v44.2.1 v43 true ((eqB T .eql 28 false true v44.1 (.int .i64 0)).bind fun d => some (d, v44.2.1, .pure))).bind fun v45 =>
  (pickD v43 v45.1 (.bool false)).bind fun v46 =>
  (guardO v45.2.1 v46 true (some (v21, v45.2.1, .pure))).bind fun v47 =>
  (guardO v47.2.1 v46 true ((eqB T .neq 23 false true v47.1 .nilp).bind fun d => some (d, v47.2.1, .pure))).bind fun v48 =>
  (pickD v46 v48.1 (.bool false)).bind fun v49 =>
  (guardO v48.2.1 v49 true (some (v22, v48.2.1, .pure))).bind fun v50 =>
  (guardO v50.2.1 v49 true ((eqB T .eql 9 false true v50.1 (.str [115, 101, 99, 111, 110, 100])).bind fun d => some (d, v50.2.1, .pure))).bind fun v51 =>
  (pickD v49 v51.1 (.bool false)).bind fun v52 =>
  (guardO v51.2.1 v52 true (some (v23, v51.2.1, .pure))).bind fun v53 =>
  (guardO v53.2.1 v52 true ((lenD T 32 v53.1 v53.2.1).bind fun p => some (p.1, p.2.1, p.2.2))).bind fun v54 =>
  (guardO v54.2.1 v52 true ((eqB T .eql 3 false true v54.1 (.int .i64 1)).bind fun d => some (d, v54.2.1, .pure))).bind fun v55 =>
  (pickD v52 v55.1 (.bool false)).bind fun v56 =>
  (guardO v55.2.1 v56 true (some (v23, v55.2.1, .pure))).bind fun v57 =>
  (guardO v57.2.1 v56 true ((indexAddrD T 32 v57.1 (.int .i64 0)).bind fun d => some (d, v57.2.1, .pure))).bind fun v58 =>
  (guardO v58.2.1 v56 true ((loadD false 1 v58.2.1 v58.1).bind fun d => some (d, v58.2.1, (addrEff v58.1)))).bind fun v59 =>
  (guardO v59.2.1 v56 true ((eqB T .eql 9 false true v59.1 (.str [116, 119, 111])).bind fun d => some (d, v59.2.1, .pure))).bind fun v60 =>
  (pickD v56 v60.1 (.bool false)).bind fun v61 =>
  (guardO v60.2.1 v61 true (some (v29, v60.2.1, .pure))).bind fun v62 =>
  (guardO v62.2.1 v61 true ((eqB T .eql 28 false true v62.1 (.int .i64 2)).bind fun d => some (d, v62.2.1, .pure))).bind fun v63 =>
  (pickD v61 v63.1 (.bool false)).bind fun v64 =>
  (guardO v63.2.1 v64 true (some (v9, v63.2.1, .pure))).bind fun v65 =>
  (guardO v65.2.1 v64 true ((c.call 12 [v65.1] v65.2.1).bind fun p => some (p.1, p.2.1, p.2.2))).bind fun v66 =>
  (guardO v66.2.1 v64 true ((eqB T .eql 3 false true v66.1 (.int .i64 2)).bind fun d => some (d, v66.2.1, .pure))).bind fun v67 =>
  (pickD v64 v67.1 (.bool false)).bind fun v68 =>
  (guardO v67.2.1 v68 true (some (v9, v67.2.1, .pure))).bind fun v69 =>
  (guardO v69.2.1 v68 true ((c.call 13 [v69.1] v69.2.1).bind fun p => some (p.1, p.2.1, p.2.2))).bind fun v70 =>
  (guardO v70.2.1 v68 true ((eqB T .eql 3 false true v70.1 (.int .i64 1)).bind fun d => some (d, v70.2.1, .pure))).bind fun v71 =>
  (pickD v68 v71.1 (.bool false)).bind fun v72 =>
  (guardO v71.2.1 v72 true (some (v9, v71.2.1, .pure))).bind fun v73 =>
  (guardO v73.2.1 v72 true ((c.call 14 [v73.1] v73.2.1).bind fun p => some (p.1, p.2.1, p.2.2))).bind fun v74 =>
  (guardO v74.2.1 v72 true ((unD .not v74.1).bind fun d => some (d, v74.2.1, .pure))).bind fun v75 =>
  (pickD v72 v75.1 (.bool false)).bind fun v76 =>
  (guardO v75.2.1 v76 true (some (v9, v75.2.1, .pure))).bind fun v77 =>
  (guardO v77.2.1 v76 true ((c.call 10 [v77.1, (.str [])] v77.2.1).bind fun p => some (p.1, p.2.1, p.2.2))).bind fun v78 =>
  (pickD v76 v78.1 (.bool false)).bind fun v79 =>
  (guardO v78.2.1 v79 true (some (v9, v78.2.1, .pure))).bind fun v80 =>
  (guardO v80.2.1 v79 true ((c.call 11 [v80.1, (.str [120])] v80.2.1).bind fun p => some (p.1, p.2.1, p.2.2))).bind fun v81 =>
  (pickD v79 v81.1 (.bool false)).bind fun v82 =>
  (guardO v81.2.1 v82 true (some (v9, v81.2.1, .pure))).bind fun v83 =>
  (guardO v83.2.1 v82 true ((makeSliceD T v83.2.1 74 (.int .i64 200) (.int .i64 200)).bind fun p => some (p.1, p.2, .grow))).bind fun v84 =>
  (guardO v84.2.1 v82 true ((convD T 74 9 v84.1 v84.2.1).bind fun p => some (p.1, p.2.1, p.2.2))).bind fun v85 =>
  (guardO v85.2.1 v82 true ((c.call 11 [v83.1, v85.1] v85.2.1).bind fun p => some (p.1, p.2.1, p.2.2))).bind fun v86 =>
  (guardO v86.2.1 v82 true ((unD .not v86.1).bind fun d => some (d, v86.2.1, .pure))).bind fun v87 =>
  (pickD v82 v87.1 (.bool false)).bind fun v88 =>
  some (v88, v87.2.1))) := by kernel_rfl
/- f109: backhaul/crc.On -/
noncomputable def L109_0 (c : Cx) (K : Ex → Fr → Store → Option (DV × Store)) : (Fr → Store → Option (DV × Store)) → Fr → Store → Option (DV × Store) := roundB T G0 c.call c.ro c.lim c.k Tryz.f109 [1, 1, 1, 0, 1, 0, 0] K
noncomputable def K109_0 (c : Cx) : Ex → Fr → Store → Option (DV × Store) := restB T G0 c.call c.ro c.lim c.k Tryz.f109 [] [1, 1, 1, 0, 1, 0] (finB T c.dcall false Tryz.f109)
noncomputable def D109_0 : List Nat := deadC (codeIn Tryz.f109 [1, 1, 1, 0, 1, 0, 0]).1 (codeIn Tryz.f109 [1, 1, 1, 0, 1, 0, 0]).2
theorem S109_eq (c : Cx) (x0 x1 : DV) (S : Store) : bodyX T G0 c false Tryz.f109 [x0, x1] S =
  (c.call 122 [] S).bind fun v1 =>
  (unD .xor x0).bind fun v2 =>
  iterD c.k (L109_0 c (K109_0 c)) ⟨[x0, x1, (.tup []), (.tup []), (.int .u32 0), v1.1, v2, (.int .i64 0), v1.1, x0, v2, (.tup []), (.tup []), (.tup []), (.tup []), (.tup []), (.tup []), (.tup []), (.tup []), (.tup []), (.tup []), (.tup []), (.tup []), (.tup []), (.tup [])], []⟩ v1.2.1 := by kernel_rfl
theorem D109_0_eq (g : Fr → Store → Option (DV × Store)) (K : Ex → Fr → Store → Option (DV × Store)) (x0 x1 x2 x3 x4 x5 x6 x7 x8 x9 x10 x11 x12 x13 x14 x15 x16 x17 x18 x19 x20 x21 x22 x23 x24 : DV) (S : Store) : roundK D109_0 g K .normal ⟨[x0, x1, x2, x3, x4, x5, x6, x7, x8, x9, x10, x11, x12, x13, x14, x15, x16, x17, x18, x19, x20, x21, x22, x23, x24], []⟩ S = g ⟨[x0, x1, x2, x3, x4, x5, x6, x7, x8, x9, x10, .undef, .undef, .undef, .undef, .undef, .undef, .undef, .undef, .undef, .undef, .undef, .undef, x23, x24], []⟩ S := by kernel_rfl
theorem L109_0_eq (c : Cx) (K : Ex → Fr → Store → Option (DV × Store)) (g : Fr → Store → Option (DV × Store)) (x0 x1 x2 x3 x4 x5 x6 x7 x8 x9 x10 x11 x12 x13 x14 x15 x16 x17 x18 x19 x20 x21 x22 x23 x24 : DV) (S : Store) : L109_0 c K g ⟨[x0, x1, x2, x3, x4, x5, x6, x7, x8, x9, x10, x11, x12, x13, x14, x15, x16, x17, x18, x19, x20, x21, x22, x23, x24], []⟩ S =
  (lenD T 9 x1 S).bind fun v3 =>
  (binD T .lss 3 x7 v3.1).bind fun v4 =>
  condB v4
  ((indexD T 9 x1 x7).bind fun v5 =>
  (targetD x5 [x6, v5]).bind fun q6 =>
  (c.call q6.1 q6.2 v3.2.1).bind fun v7 =>
  (binD T .add 3 x7 (.int .i64 1)).bind fun v8 =>
  g ⟨[x0, x1, x2, x3, x4, x5, v7.1, v8, x8, x9, x10, .undef, .undef, .undef, .undef, .undef, .undef, .undef, .undef, .undef, .undef, .undef, .undef, x23, x24], []⟩ v7.2.1)
  (K (.exit 0) ⟨[x0, x1, x2, x3, x4, x5, x6, x7, x8, x9, x10, x7, x1, v3.1, v4, x15, x16, x17, x18, x19, x20, x21, x22, x23, x24], []⟩ v3.2.1) := by kernel_rfl
theorem K109_0_0 (c : Cx) (x0 x1 x2 x3 x4 x5 x6 x7 x8 x9 x10 x11 x12 x13 x14 x15 x16 x17 x18 x19 x20 x21 x22 x23 x24 : DV) (S : Store) : K109_0 c (.exit 0) ⟨[x0, x1, x2, x3, x4, x5, x6, x7, x8, x9, x10, x11, x12, x13, x14, x15, x16, x17, x18, x19, x20, x21, x22, x23, x24], []⟩ S =
  (unD .xor x6).bind fun v9 =>
  some (v9, S) := by kernel_rfl
/- f138: backhaul/crc.steps$1 -/
theorem S138_eq (c : Cx) (x0 x1 x2 : DV) (S : Store) : bodyX T G0 c false Tryz.f138 [x0, x1, x2] S =
  (convD T 5 153 x1 S).bind fun v1 =>
  (binD T .xor 153 x0 v1.1).bind fun v2 =>
  (binD T .shr 153 v2 (.int .u64 4)).bind fun v3 =>
  (binD T .and 153 v2 (.int .u32 15)).bind fun v4 =>
  (indexAddrD T 202 x2 v4).bind fun v5 =>
  (loadD false 1 v1.2.1 v5).bind fun v6 =>
  (binD T .xor 153 v3 v6).bind fun v7 =>
  (binD T .shr 153 v7 (.int .u64 4)).bind fun v8 =>
  (binD T .and 153 v7 (.int .u32 15)).bind fun v9 =>
  (indexAddrD T 202 x2 v9).bind fun v10 =>
  (loadD false 1 v1.2.1 v10).bind fun v11 =>
  (binD T .xor 153 v8 v11).bind fun v12 =>
  some (v12, v1.2.1) := by kernel_rfl
end Go.Dv.A
