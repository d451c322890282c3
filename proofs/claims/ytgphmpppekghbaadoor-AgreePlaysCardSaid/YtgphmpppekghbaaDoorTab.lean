/- The table of types of this seat's program. Printed by gentab.py. -/
import Derived.Test.YtgphmpppekghbaaDoorProg
import Derived.Test.YtgphmpppekghbaaDoorSlSlice3
namespace Go.Proofs.Tryd
open Go.Sl
abbrev e0 : TE := ⟨.tuple #[], 1, 0, .tuple #[]⟩
theorem ok0 : e0.Ok Tryd.prog 0 := ⟨Tryd.underlying0, Tryd.t0, by kernel_rfl, by kernel_rfl, by kernel_rfl, by kernel_rfl⟩
abbrev e1 : TE := ⟨.func #[] #[] false, 1, 8, .nilFunc⟩
theorem ok1 : e1.Ok Tryd.prog 1 := ⟨Tryd.underlying1, Tryd.t1, by kernel_rfl, by kernel_rfl, by kernel_rfl, by kernel_rfl⟩
abbrev e2 : TE := ⟨.int .i64, 1, 8, .int .i64 0⟩
theorem ok2 : e2.Ok Tryd.prog 2 := ⟨Tryd.underlying2, Tryd.t2, by kernel_rfl, by kernel_rfl, by kernel_rfl, by kernel_rfl⟩
abbrev e3 : TE := ⟨.int .i64, 1, 8, .int .i64 0⟩
theorem ok3 : e3.Ok Tryd.prog 3 := ⟨Tryd.underlying3, Tryd.t3, by kernel_rfl, by kernel_rfl, by kernel_rfl, by kernel_rfl⟩
abbrev e4 : TE := ⟨.bool, 1, 1, .bool false⟩
theorem ok4 : e4.Ok Tryd.prog 4 := ⟨Tryd.underlying4, Tryd.t4, by kernel_rfl, by kernel_rfl, by kernel_rfl, by kernel_rfl⟩
abbrev e5 : TE := ⟨.int .u8, 1, 1, .int .u8 0⟩
theorem ok5 : e5.Ok Tryd.prog 5 := ⟨Tryd.underlying5, Tryd.t5, by kernel_rfl, by kernel_rfl, by kernel_rfl, by kernel_rfl⟩
abbrev e6 : TE := ⟨.int .u8, 1, 1, .int .u8 0⟩
theorem ok6 : e6.Ok Tryd.prog 6 := ⟨Tryd.underlying6, Tryd.t6, by kernel_rfl, by kernel_rfl, by kernel_rfl, by kernel_rfl⟩
abbrev e7 : TE := ⟨.struct #[{ name := "x", type := 2, offset := 0, embedded := false, tag := "", pkgPath := "runtime", byteOffset := 0 }, { name := "y", type := 3, offset := 1, embedded := false, tag := "", pkgPath := "runtime", byteOffset := 8 }, { name := "signed", type := 4, offset := 2, embedded := false, tag := "", pkgPath := "runtime", byteOffset := 16 }, { name := "code", type := 6, offset := 3, embedded := false, tag := "", pkgPath := "runtime", byteOffset := 17 }], 4, 24, .agg #[.int .i64 0, .int .i64 0, .bool false, .int .u8 0]⟩
theorem ok7 : e7.Ok Tryd.prog 7 := ⟨Tryd.underlying7, Tryd.t7, by kernel_rfl, by kernel_rfl, by kernel_rfl, by kernel_rfl⟩
abbrev e8 : TE := ⟨.struct #[{ name := "x", type := 2, offset := 0, embedded := false, tag := "", pkgPath := "runtime", byteOffset := 0 }, { name := "y", type := 3, offset := 1, embedded := false, tag := "", pkgPath := "runtime", byteOffset := 8 }, { name := "signed", type := 4, offset := 2, embedded := false, tag := "", pkgPath := "runtime", byteOffset := 16 }, { name := "code", type := 6, offset := 3, embedded := false, tag := "", pkgPath := "runtime", byteOffset := 17 }], 4, 24, .agg #[.int .i64 0, .int .i64 0, .bool false, .int .u8 0]⟩
theorem ok8 : e8.Ok Tryd.prog 8 := ⟨Tryd.underlying8, Tryd.t8, by kernel_rfl, by kernel_rfl, by kernel_rfl, by kernel_rfl⟩
abbrev e9 : TE := ⟨.string, 1, 16, .string ByteArray.empty⟩
theorem ok9 : e9.Ok Tryd.prog 9 := ⟨Tryd.underlying9, Tryd.t9, by kernel_rfl, by kernel_rfl, by kernel_rfl, by kernel_rfl⟩
abbrev e10 : TE := ⟨.string, 1, 16, .string ByteArray.empty⟩
theorem ok10 : e10.Ok Tryd.prog 10 := ⟨Tryd.underlying10, Tryd.t10, by kernel_rfl, by kernel_rfl, by kernel_rfl, by kernel_rfl⟩
abbrev e11 : TE := ⟨.string, 1, 16, .string ByteArray.empty⟩
theorem ok11 : e11.Ok Tryd.prog 11 := ⟨Tryd.underlying11, Tryd.t11, by kernel_rfl, by kernel_rfl, by kernel_rfl, by kernel_rfl⟩
abbrev e12 : TE := ⟨.int .u64, 1, 8, .int .u64 0⟩
theorem ok12 : e12.Ok Tryd.prog 12 := ⟨Tryd.underlying12, Tryd.t12, by kernel_rfl, by kernel_rfl, by kernel_rfl, by kernel_rfl⟩
abbrev e13 : TE := ⟨.struct #[{ name := "msg", type := 9, offset := 0, embedded := false, tag := "", pkgPath := "runtime", byteOffset := 0 }, { name := "addr", type := 12, offset := 1, embedded := false, tag := "", pkgPath := "runtime", byteOffset := 16 }], 2, 24, .agg #[.string ByteArray.empty, .int .u64 0]⟩
theorem ok13 : e13.Ok Tryd.prog 13 := ⟨Tryd.underlying13, Tryd.t13, by kernel_rfl, by kernel_rfl, by kernel_rfl, by kernel_rfl⟩
abbrev e14 : TE := ⟨.struct #[{ name := "msg", type := 9, offset := 0, embedded := false, tag := "", pkgPath := "runtime", byteOffset := 0 }, { name := "addr", type := 12, offset := 1, embedded := false, tag := "", pkgPath := "runtime", byteOffset := 16 }], 2, 24, .agg #[.string ByteArray.empty, .int .u64 0]⟩
theorem ok14 : e14.Ok Tryd.prog 14 := ⟨Tryd.underlying14, Tryd.t14, by kernel_rfl, by kernel_rfl, by kernel_rfl, by kernel_rfl⟩
abbrev e15 : TE := ⟨.pointer 261, 1, 8, .pointer none⟩
theorem ok15 : e15.Ok Tryd.prog 15 := ⟨Tryd.underlying15, Tryd.t15, by kernel_rfl, by kernel_rfl, by kernel_rfl, by kernel_rfl⟩
abbrev e16 : TE := ⟨.pointer 264, 1, 8, .pointer none⟩
theorem ok16 : e16.Ok Tryd.prog 16 := ⟨Tryd.underlying16, Tryd.t16, by kernel_rfl, by kernel_rfl, by kernel_rfl, by kernel_rfl⟩
abbrev e17 : TE := ⟨.pointer 272, 1, 8, .pointer none⟩
theorem ok17 : e17.Ok Tryd.prog 17 := ⟨Tryd.underlying17, Tryd.t17, by kernel_rfl, by kernel_rfl, by kernel_rfl, by kernel_rfl⟩
abbrev e18 : TE := ⟨.struct #[{ name := "typ", type := 17, offset := 0, embedded := false, tag := "", pkgPath := "internal/runtime/maps", byteOffset := 0 }], 1, 8, .agg #[.pointer none]⟩
theorem ok18 : e18.Ok Tryd.prog 18 := ⟨Tryd.underlying18, Tryd.t18, by kernel_rfl, by kernel_rfl, by kernel_rfl, by kernel_rfl⟩
abbrev e19 : TE := ⟨.struct #[{ name := "typ", type := 17, offset := 0, embedded := false, tag := "", pkgPath := "internal/runtime/maps", byteOffset := 0 }], 1, 8, .agg #[.pointer none]⟩
theorem ok19 : e19.Ok Tryd.prog 19 := ⟨Tryd.underlying19, Tryd.t19, by kernel_rfl, by kernel_rfl, by kernel_rfl, by kernel_rfl⟩
abbrev e20 : TE := ⟨.interface #[], 1, 16, .nilIface⟩
theorem ok20 : e20.Ok Tryd.prog 20 := ⟨Tryd.underlying20, Tryd.t20, by kernel_rfl, by kernel_rfl, by kernel_rfl, by kernel_rfl⟩
abbrev e21 : TE := ⟨.int .i32, 1, 4, .int .i32 0⟩
theorem ok21 : e21.Ok Tryd.prog 21 := ⟨Tryd.underlying21, Tryd.t21, by kernel_rfl, by kernel_rfl, by kernel_rfl, by kernel_rfl⟩
abbrev e22 : TE := ⟨.slice 3, 1, 24, .slice none 0 0⟩
theorem ok22 : e22.Ok Tryd.prog 22 := ⟨Tryd.underlying22, Tryd.t22, by kernel_rfl, by kernel_rfl, by kernel_rfl, by kernel_rfl⟩
abbrev e23 : TE := ⟨.slice 22, 1, 24, .slice none 0 0⟩
theorem ok23 : e23.Ok Tryd.prog 23 := ⟨Tryd.underlying23, Tryd.t23, by kernel_rfl, by kernel_rfl, by kernel_rfl, by kernel_rfl⟩
abbrev e24 : TE := ⟨.pointer 132, 1, 8, .pointer none⟩
theorem ok24 : e24.Ok Tryd.prog 24 := ⟨Tryd.underlying24, Tryd.t24, by kernel_rfl, by kernel_rfl, by kernel_rfl, by kernel_rfl⟩
abbrev e25 : TE := ⟨.interface #[("Error", 259)], 1, 16, .nilIface⟩
theorem ok25 : e25.Ok Tryd.prog 25 := ⟨Tryd.underlying25, Tryd.t25, by kernel_rfl, by kernel_rfl, by kernel_rfl, by kernel_rfl⟩
abbrev e26 : TE := ⟨.interface #[("Error", 259)], 1, 16, .nilIface⟩
theorem ok26 : e26.Ok Tryd.prog 26 := ⟨Tryd.underlying26, Tryd.t26, by kernel_rfl, by kernel_rfl, by kernel_rfl, by kernel_rfl⟩
abbrev e27 : TE := ⟨.tuple #[24, 26], 1, 0, .tuple #[.pointer none, .nilIface]⟩
theorem ok27 : e27.Ok Tryd.prog 27 := ⟨Tryd.underlying27, Tryd.t27, by kernel_rfl, by kernel_rfl, by kernel_rfl, by kernel_rfl⟩
abbrev e28 : TE := ⟨.func #[22] #[24, 26] false, 1, 8, .nilFunc⟩
theorem ok28 : e28.Ok Tryd.prog 28 := ⟨Tryd.underlying28, Tryd.t28, by kernel_rfl, by kernel_rfl, by kernel_rfl, by kernel_rfl⟩
abbrev e29 : TE := ⟨.func #[26, 3] #[4] false, 1, 8, .nilFunc⟩
theorem ok29 : e29.Ok Tryd.prog 29 := ⟨Tryd.underlying29, Tryd.t29, by kernel_rfl, by kernel_rfl, by kernel_rfl, by kernel_rfl⟩
abbrev e30 : TE := ⟨.pointer 38, 1, 8, .pointer none⟩
theorem ok30 : e30.Ok Tryd.prog 30 := ⟨Tryd.underlying30, Tryd.t30, by kernel_rfl, by kernel_rfl, by kernel_rfl, by kernel_rfl⟩
abbrev e31 : TE := ⟨.array 5 22, 5, 120, .agg #[.slice none 0 0, .slice none 0 0, .slice none 0 0, .slice none 0 0, .slice none 0 0]⟩
theorem ok31 : e31.Ok Tryd.prog 31 := ⟨Tryd.underlying31, Tryd.t31, by kernel_rfl, by kernel_rfl, by kernel_rfl, by kernel_rfl⟩
abbrev e32 : TE := ⟨.array 5 31, 25, 600, .agg (List.replicate 25 (Value.slice none 0 0)).toArray⟩
theorem ok32 : e32.Ok Tryd.prog 32 := ⟨Tryd.underlying32, Tryd.t32, by kernel_rfl, by kernel_rfl, by kernel_rfl, by kernel_rfl⟩
abbrev e33 : TE := ⟨.array 5 4, 5, 5, .agg #[.bool false, .bool false, .bool false, .bool false, .bool false]⟩
theorem ok33 : e33.Ok Tryd.prog 33 := ⟨Tryd.underlying33, Tryd.t33, by kernel_rfl, by kernel_rfl, by kernel_rfl, by kernel_rfl⟩
abbrev e34 : TE := ⟨.array 5 3, 5, 40, .agg #[.int .i64 0, .int .i64 0, .int .i64 0, .int .i64 0, .int .i64 0]⟩
theorem ok34 : e34.Ok Tryd.prog 34 := ⟨Tryd.underlying34, Tryd.t34, by kernel_rfl, by kernel_rfl, by kernel_rfl, by kernel_rfl⟩
abbrev e35 : TE := ⟨.array 5 33, 25, 25, .agg (List.replicate 25 (Value.bool false)).toArray⟩
theorem ok35 : e35.Ok Tryd.prog 35 := ⟨Tryd.underlying35, Tryd.t35, by kernel_rfl, by kernel_rfl, by kernel_rfl, by kernel_rfl⟩
abbrev e36 : TE := ⟨.array 5 34, 25, 200, .agg (List.replicate 25 (Value.int .i64 0)).toArray⟩
theorem ok36 : e36.Ok Tryd.prog 36 := ⟨Tryd.underlying36, Tryd.t36, by kernel_rfl, by kernel_rfl, by kernel_rfl, by kernel_rfl⟩
abbrev e37 : TE := ⟨.struct #[{ name := "Gold", type := 22, offset := 0, embedded := false, tag := "", pkgPath := "", byteOffset := 0 }, { name := "Ways", type := 32, offset := 1, embedded := false, tag := "", pkgPath := "", byteOffset := 24 }, { name := "Begun", type := 4, offset := 26, embedded := false, tag := "", pkgPath := "", byteOffset := 624 }, { name := "Has", type := 33, offset := 27, embedded := false, tag := "", pkgPath := "", byteOffset := 625 }, { name := "Wrote", type := 34, offset := 32, embedded := false, tag := "", pkgPath := "", byteOffset := 632 }, { name := "Open", type := 35, offset := 37, embedded := false, tag := "", pkgPath := "", byteOffset := 672 }, { name := "OnWay", type := 3, offset := 62, embedded := false, tag := "", pkgPath := "", byteOffset := 704 }, { name := "Part", type := 36, offset := 63, embedded := false, tag := "", pkgPath := "", byteOffset := 712 }], 88, 912, .agg (List.replicate 26 (Value.slice none 0 0) ++ List.replicate 6 (Value.bool false) ++ List.replicate 5 (Value.int .i64 0) ++ List.replicate 25 (Value.bool false) ++ List.replicate 26 (Value.int .i64 0)).toArray⟩
theorem ok37 : e37.Ok Tryd.prog 37 := ⟨Tryd.underlying37, Tryd.t37, by kernel_rfl, by kernel_rfl, by kernel_rfl, by kernel_rfl⟩
abbrev e38 : TE := ⟨.struct #[{ name := "Gold", type := 22, offset := 0, embedded := false, tag := "", pkgPath := "", byteOffset := 0 }, { name := "Ways", type := 32, offset := 1, embedded := false, tag := "", pkgPath := "", byteOffset := 24 }, { name := "Begun", type := 4, offset := 26, embedded := false, tag := "", pkgPath := "", byteOffset := 624 }, { name := "Has", type := 33, offset := 27, embedded := false, tag := "", pkgPath := "", byteOffset := 625 }, { name := "Wrote", type := 34, offset := 32, embedded := false, tag := "", pkgPath := "", byteOffset := 632 }, { name := "Open", type := 35, offset := 37, embedded := false, tag := "", pkgPath := "", byteOffset := 672 }, { name := "OnWay", type := 3, offset := 62, embedded := false, tag := "", pkgPath := "", byteOffset := 704 }, { name := "Part", type := 36, offset := 63, embedded := false, tag := "", pkgPath := "", byteOffset := 712 }], 88, 912, .agg (List.replicate 26 (Value.slice none 0 0) ++ List.replicate 6 (Value.bool false) ++ List.replicate 5 (Value.int .i64 0) ++ List.replicate 25 (Value.bool false) ++ List.replicate 26 (Value.int .i64 0)).toArray⟩
theorem ok38 : e38.Ok Tryd.prog 38 := ⟨Tryd.underlying38, Tryd.t38, by kernel_rfl, by kernel_rfl, by kernel_rfl, by kernel_rfl⟩
abbrev e39 : TE := ⟨.array 4 3, 4, 32, .agg #[.int .i64 0, .int .i64 0, .int .i64 0, .int .i64 0]⟩
theorem ok39 : e39.Ok Tryd.prog 39 := ⟨Tryd.underlying39, Tryd.t39, by kernel_rfl, by kernel_rfl, by kernel_rfl, by kernel_rfl⟩
abbrev e40 : TE := ⟨.func #[3, 3] #[3] false, 1, 8, .nilFunc⟩
theorem ok40 : e40.Ok Tryd.prog 40 := ⟨Tryd.underlying40, Tryd.t40, by kernel_rfl, by kernel_rfl, by kernel_rfl, by kernel_rfl⟩
abbrev e41 : TE := ⟨.func #[3, 3, 3] #[26] false, 1, 8, .nilFunc⟩
theorem ok41 : e41.Ok Tryd.prog 41 := ⟨Tryd.underlying41, Tryd.t41, by kernel_rfl, by kernel_rfl, by kernel_rfl, by kernel_rfl⟩
abbrev e42 : TE := ⟨.tuple #[3, 3], 1, 0, .tuple #[.int .i64 0, .int .i64 0]⟩
theorem ok42 : e42.Ok Tryd.prog 42 := ⟨Tryd.underlying42, Tryd.t42, by kernel_rfl, by kernel_rfl, by kernel_rfl, by kernel_rfl⟩
abbrev e43 : TE := ⟨.func #[3, 3] #[3, 3] false, 1, 8, .nilFunc⟩
theorem ok43 : e43.Ok Tryd.prog 43 := ⟨Tryd.underlying43, Tryd.t43, by kernel_rfl, by kernel_rfl, by kernel_rfl, by kernel_rfl⟩
abbrev e44 : TE := ⟨.tuple #[3, 26], 1, 0, .tuple #[.int .i64 0, .nilIface]⟩
theorem ok44 : e44.Ok Tryd.prog 44 := ⟨Tryd.underlying44, Tryd.t44, by kernel_rfl, by kernel_rfl, by kernel_rfl, by kernel_rfl⟩
abbrev e45 : TE := ⟨.func #[3, 3] #[3, 26] false, 1, 8, .nilFunc⟩
theorem ok45 : e45.Ok Tryd.prog 45 := ⟨Tryd.underlying45, Tryd.t45, by kernel_rfl, by kernel_rfl, by kernel_rfl, by kernel_rfl⟩
abbrev e46 : TE := ⟨.func #[3] #[] false, 1, 8, .nilFunc⟩
theorem ok46 : e46.Ok Tryd.prog 46 := ⟨Tryd.underlying46, Tryd.t46, by kernel_rfl, by kernel_rfl, by kernel_rfl, by kernel_rfl⟩
abbrev e47 : TE := ⟨.func #[3] #[26] false, 1, 8, .nilFunc⟩
theorem ok47 : e47.Ok Tryd.prog 47 := ⟨Tryd.underlying47, Tryd.t47, by kernel_rfl, by kernel_rfl, by kernel_rfl, by kernel_rfl⟩
abbrev e48 : TE := ⟨.func #[3] #[3, 26] false, 1, 8, .nilFunc⟩
theorem ok48 : e48.Ok Tryd.prog 48 := ⟨Tryd.underlying48, Tryd.t48, by kernel_rfl, by kernel_rfl, by kernel_rfl, by kernel_rfl⟩
abbrev e49 : TE := ⟨.tuple #[22, 26], 1, 0, .tuple #[.slice none 0 0, .nilIface]⟩
theorem ok49 : e49.Ok Tryd.prog 49 := ⟨Tryd.underlying49, Tryd.t49, by kernel_rfl, by kernel_rfl, by kernel_rfl, by kernel_rfl⟩
abbrev e50 : TE := ⟨.func #[3, 3] #[22, 26] false, 1, 8, .nilFunc⟩
theorem ok50 : e50.Ok Tryd.prog 50 := ⟨Tryd.underlying50, Tryd.t50, by kernel_rfl, by kernel_rfl, by kernel_rfl, by kernel_rfl⟩
abbrev e51 : TE := ⟨.func #[22, 22] #[4] false, 1, 8, .nilFunc⟩
theorem ok51 : e51.Ok Tryd.prog 51 := ⟨Tryd.underlying51, Tryd.t51, by kernel_rfl, by kernel_rfl, by kernel_rfl, by kernel_rfl⟩
abbrev e52 : TE := ⟨.func #[] #[4] false, 1, 8, .nilFunc⟩
theorem ok52 : e52.Ok Tryd.prog 52 := ⟨Tryd.underlying52, Tryd.t52, by kernel_rfl, by kernel_rfl, by kernel_rfl, by kernel_rfl⟩
abbrev e53 : TE := ⟨.struct #[{ name := "Had", type := 3, offset := 0, embedded := false, tag := "", pkgPath := "", byteOffset := 0 }, { name := "OnWay", type := 3, offset := 1, embedded := false, tag := "", pkgPath := "", byteOffset := 8 }], 2, 16, .agg #[.int .i64 0, .int .i64 0]⟩
theorem ok53 : e53.Ok Tryd.prog 53 := ⟨Tryd.underlying53, Tryd.t53, by kernel_rfl, by kernel_rfl, by kernel_rfl, by kernel_rfl⟩
abbrev e54 : TE := ⟨.struct #[{ name := "Had", type := 3, offset := 0, embedded := false, tag := "", pkgPath := "", byteOffset := 0 }, { name := "OnWay", type := 3, offset := 1, embedded := false, tag := "", pkgPath := "", byteOffset := 8 }], 2, 16, .agg #[.int .i64 0, .int .i64 0]⟩
theorem ok54 : e54.Ok Tryd.prog 54 := ⟨Tryd.underlying54, Tryd.t54, by kernel_rfl, by kernel_rfl, by kernel_rfl, by kernel_rfl⟩
abbrev e55 : TE := ⟨.tuple #[54, 26], 1, 0, .tuple #[.agg #[.int .i64 0, .int .i64 0], .nilIface]⟩
theorem ok55 : e55.Ok Tryd.prog 55 := ⟨Tryd.underlying55, Tryd.t55, by kernel_rfl, by kernel_rfl, by kernel_rfl, by kernel_rfl⟩
abbrev e56 : TE := ⟨.func #[] #[54, 26] false, 1, 8, .nilFunc⟩
theorem ok56 : e56.Ok Tryd.prog 56 := ⟨Tryd.underlying56, Tryd.t56, by kernel_rfl, by kernel_rfl, by kernel_rfl, by kernel_rfl⟩
abbrev e57 : TE := ⟨.func #[22, 23] #[4] false, 1, 8, .nilFunc⟩
theorem ok57 : e57.Ok Tryd.prog 57 := ⟨Tryd.underlying57, Tryd.t57, by kernel_rfl, by kernel_rfl, by kernel_rfl, by kernel_rfl⟩
abbrev e58 : TE := ⟨.pointer 143, 1, 8, .pointer none⟩
theorem ok58 : e58.Ok Tryd.prog 58 := ⟨Tryd.underlying58, Tryd.t58, by kernel_rfl, by kernel_rfl, by kernel_rfl, by kernel_rfl⟩
abbrev e59 : TE := ⟨.tuple #[58, 26], 1, 0, .tuple #[.pointer none, .nilIface]⟩
theorem ok59 : e59.Ok Tryd.prog 59 := ⟨Tryd.underlying59, Tryd.t59, by kernel_rfl, by kernel_rfl, by kernel_rfl, by kernel_rfl⟩
abbrev e60 : TE := ⟨.func #[3] #[58, 26] false, 1, 8, .nilFunc⟩
theorem ok60 : e60.Ok Tryd.prog 60 := ⟨Tryd.underlying60, Tryd.t60, by kernel_rfl, by kernel_rfl, by kernel_rfl, by kernel_rfl⟩
abbrev e61 : TE := ⟨.pointer 69, 1, 8, .pointer none⟩
theorem ok61 : e61.Ok Tryd.prog 61 := ⟨Tryd.underlying61, Tryd.t61, by kernel_rfl, by kernel_rfl, by kernel_rfl, by kernel_rfl⟩
abbrev e62 : TE := ⟨.array 31 4, 31, 31, .agg (List.replicate 31 (Value.bool false)).toArray⟩
theorem ok62 : e62.Ok Tryd.prog 62 := ⟨Tryd.underlying62, Tryd.t62, by kernel_rfl, by kernel_rfl, by kernel_rfl, by kernel_rfl⟩
abbrev e63 : TE := ⟨.struct #[{ name := "N", type := 3, offset := 0, embedded := false, tag := "", pkgPath := "", byteOffset := 0 }, { name := "Who", type := 3, offset := 1, embedded := false, tag := "", pkgPath := "", byteOffset := 8 }], 2, 16, .agg #[.int .i64 0, .int .i64 0]⟩
theorem ok63 : e63.Ok Tryd.prog 63 := ⟨Tryd.underlying63, Tryd.t63, by kernel_rfl, by kernel_rfl, by kernel_rfl, by kernel_rfl⟩
abbrev e64 : TE := ⟨.struct #[{ name := "N", type := 3, offset := 0, embedded := false, tag := "", pkgPath := "", byteOffset := 0 }, { name := "Who", type := 3, offset := 1, embedded := false, tag := "", pkgPath := "", byteOffset := 8 }], 2, 16, .agg #[.int .i64 0, .int .i64 0]⟩
theorem ok64 : e64.Ok Tryd.prog 64 := ⟨Tryd.underlying64, Tryd.t64, by kernel_rfl, by kernel_rfl, by kernel_rfl, by kernel_rfl⟩
abbrev e65 : TE := ⟨.array 5 64, 10, 80, .agg #[.int .i64 0, .int .i64 0, .int .i64 0, .int .i64 0, .int .i64 0, .int .i64 0, .int .i64 0, .int .i64 0, .int .i64 0, .int .i64 0]⟩
theorem ok65 : e65.Ok Tryd.prog 65 := ⟨Tryd.underlying65, Tryd.t65, by kernel_rfl, by kernel_rfl, by kernel_rfl, by kernel_rfl⟩
abbrev e66 : TE := ⟨.array 31 65, 310, 2480, .agg (List.replicate 310 (Value.int .i64 0)).toArray⟩
theorem ok66 : e66.Ok Tryd.prog 66 := ⟨Tryd.underlying66, Tryd.t66, by kernel_rfl, by kernel_rfl, by kernel_rfl, by kernel_rfl⟩
abbrev e67 : TE := ⟨.array 31 33, 155, 155, .agg (List.replicate 155 (Value.bool false)).toArray⟩
theorem ok67 : e67.Ok Tryd.prog 67 := ⟨Tryd.underlying67, Tryd.t67, by kernel_rfl, by kernel_rfl, by kernel_rfl, by kernel_rfl⟩
abbrev e68 : TE := ⟨.struct #[{ name := "N", type := 3, offset := 0, embedded := false, tag := "", pkgPath := "", byteOffset := 0 }, { name := "Was", type := 62, offset := 1, embedded := false, tag := "", pkgPath := "", byteOffset := 8 }, { name := "Given", type := 66, offset := 32, embedded := false, tag := "", pkgPath := "", byteOffset := 40 }, { name := "Has", type := 67, offset := 342, embedded := false, tag := "", pkgPath := "", byteOffset := 2520 }, { name := "Knew", type := 67, offset := 497, embedded := false, tag := "", pkgPath := "", byteOffset := 2675 }, { name := "Most", type := 34, offset := 652, embedded := false, tag := "", pkgPath := "", byteOffset := 2832 }, { name := "Heard", type := 31, offset := 657, embedded := false, tag := "", pkgPath := "", byteOffset := 2872 }], 662, 2992, .agg ([Value.int .i64 0] ++ List.replicate 31 (Value.bool false) ++ List.replicate 310 (Value.int .i64 0) ++ List.replicate 310 (Value.bool false) ++ List.replicate 5 (Value.int .i64 0) ++ List.replicate 5 (Value.slice none 0 0)).toArray⟩
theorem ok68 : e68.Ok Tryd.prog 68 := ⟨Tryd.underlying68, Tryd.t68, by kernel_rfl, by kernel_rfl, by kernel_rfl, by kernel_rfl⟩
abbrev e69 : TE := ⟨.struct #[{ name := "N", type := 3, offset := 0, embedded := false, tag := "", pkgPath := "", byteOffset := 0 }, { name := "Was", type := 62, offset := 1, embedded := false, tag := "", pkgPath := "", byteOffset := 8 }, { name := "Given", type := 66, offset := 32, embedded := false, tag := "", pkgPath := "", byteOffset := 40 }, { name := "Has", type := 67, offset := 342, embedded := false, tag := "", pkgPath := "", byteOffset := 2520 }, { name := "Knew", type := 67, offset := 497, embedded := false, tag := "", pkgPath := "", byteOffset := 2675 }, { name := "Most", type := 34, offset := 652, embedded := false, tag := "", pkgPath := "", byteOffset := 2832 }, { name := "Heard", type := 31, offset := 657, embedded := false, tag := "", pkgPath := "", byteOffset := 2872 }], 662, 2992, .agg ([Value.int .i64 0] ++ List.replicate 31 (Value.bool false) ++ List.replicate 310 (Value.int .i64 0) ++ List.replicate 310 (Value.bool false) ++ List.replicate 5 (Value.int .i64 0) ++ List.replicate 5 (Value.slice none 0 0)).toArray⟩
theorem ok69 : e69.Ok Tryd.prog 69 := ⟨Tryd.underlying69, Tryd.t69, by kernel_rfl, by kernel_rfl, by kernel_rfl, by kernel_rfl⟩
abbrev e70 : TE := ⟨.array 3 3, 3, 24, .agg #[.int .i64 0, .int .i64 0, .int .i64 0]⟩
theorem ok70 : e70.Ok Tryd.prog 70 := ⟨Tryd.underlying70, Tryd.t70, by kernel_rfl, by kernel_rfl, by kernel_rfl, by kernel_rfl⟩
abbrev e71 : TE := ⟨.tuple #[64, 3], 1, 0, .tuple #[.agg #[.int .i64 0, .int .i64 0], .int .i64 0]⟩
theorem ok71 : e71.Ok Tryd.prog 71 := ⟨Tryd.underlying71, Tryd.t71, by kernel_rfl, by kernel_rfl, by kernel_rfl, by kernel_rfl⟩
abbrev e72 : TE := ⟨.func #[3, 3] #[64, 3] false, 1, 8, .nilFunc⟩
theorem ok72 : e72.Ok Tryd.prog 72 := ⟨Tryd.underlying72, Tryd.t72, by kernel_rfl, by kernel_rfl, by kernel_rfl, by kernel_rfl⟩
abbrev e73 : TE := ⟨.tuple #[64, 26], 1, 0, .tuple #[.agg #[.int .i64 0, .int .i64 0], .nilIface]⟩
theorem ok73 : e73.Ok Tryd.prog 73 := ⟨Tryd.underlying73, Tryd.t73, by kernel_rfl, by kernel_rfl, by kernel_rfl, by kernel_rfl⟩
abbrev e74 : TE := ⟨.func #[3, 3] #[64, 26] false, 1, 8, .nilFunc⟩
theorem ok74 : e74.Ok Tryd.prog 74 := ⟨Tryd.underlying74, Tryd.t74, by kernel_rfl, by kernel_rfl, by kernel_rfl, by kernel_rfl⟩
abbrev e75 : TE := ⟨.tuple #[22, 3], 1, 0, .tuple #[.slice none 0 0, .int .i64 0]⟩
theorem ok75 : e75.Ok Tryd.prog 75 := ⟨Tryd.underlying75, Tryd.t75, by kernel_rfl, by kernel_rfl, by kernel_rfl, by kernel_rfl⟩
abbrev e76 : TE := ⟨.func #[3, 3] #[22, 3] false, 1, 8, .nilFunc⟩
theorem ok76 : e76.Ok Tryd.prog 76 := ⟨Tryd.underlying76, Tryd.t76, by kernel_rfl, by kernel_rfl, by kernel_rfl, by kernel_rfl⟩
abbrev e77 : TE := ⟨.func #[3] #[22, 26] false, 1, 8, .nilFunc⟩
theorem ok77 : e77.Ok Tryd.prog 77 := ⟨Tryd.underlying77, Tryd.t77, by kernel_rfl, by kernel_rfl, by kernel_rfl, by kernel_rfl⟩
abbrev e78 : TE := ⟨.func #[3, 23] #[4] false, 1, 8, .nilFunc⟩
theorem ok78 : e78.Ok Tryd.prog 78 := ⟨Tryd.underlying78, Tryd.t78, by kernel_rfl, by kernel_rfl, by kernel_rfl, by kernel_rfl⟩
abbrev e79 : TE := ⟨.pointer 160, 1, 8, .pointer none⟩
theorem ok79 : e79.Ok Tryd.prog 79 := ⟨Tryd.underlying79, Tryd.t79, by kernel_rfl, by kernel_rfl, by kernel_rfl, by kernel_rfl⟩
abbrev e80 : TE := ⟨.tuple #[79, 26], 1, 0, .tuple #[.pointer none, .nilIface]⟩
theorem ok80 : e80.Ok Tryd.prog 80 := ⟨Tryd.underlying80, Tryd.t80, by kernel_rfl, by kernel_rfl, by kernel_rfl, by kernel_rfl⟩
abbrev e81 : TE := ⟨.func #[3] #[79, 26] false, 1, 8, .nilFunc⟩
theorem ok81 : e81.Ok Tryd.prog 81 := ⟨Tryd.underlying81, Tryd.t81, by kernel_rfl, by kernel_rfl, by kernel_rfl, by kernel_rfl⟩
abbrev e82 : TE := ⟨.pointer 90, 1, 8, .pointer none⟩
theorem ok82 : e82.Ok Tryd.prog 82 := ⟨Tryd.underlying82, Tryd.t82, by kernel_rfl, by kernel_rfl, by kernel_rfl, by kernel_rfl⟩
abbrev e83 : TE := ⟨.func #[3] #[82] false, 1, 8, .nilFunc⟩
theorem ok83 : e83.Ok Tryd.prog 83 := ⟨Tryd.underlying83, Tryd.t83, by kernel_rfl, by kernel_rfl, by kernel_rfl, by kernel_rfl⟩
abbrev e84 : TE := ⟨.func #[3, 3] #[26] false, 1, 8, .nilFunc⟩
theorem ok84 : e84.Ok Tryd.prog 84 := ⟨Tryd.underlying84, Tryd.t84, by kernel_rfl, by kernel_rfl, by kernel_rfl, by kernel_rfl⟩
abbrev e85 : TE := ⟨.func #[22] #[3] false, 1, 8, .nilFunc⟩
theorem ok85 : e85.Ok Tryd.prog 85 := ⟨Tryd.underlying85, Tryd.t85, by kernel_rfl, by kernel_rfl, by kernel_rfl, by kernel_rfl⟩
abbrev e86 : TE := ⟨.struct #[{ name := "N", type := 3, offset := 0, embedded := false, tag := "", pkgPath := "", byteOffset := 0 }, { name := "Has", type := 22, offset := 1, embedded := false, tag := "", pkgPath := "", byteOffset := 8 }], 2, 32, .agg #[.int .i64 0, .slice none 0 0]⟩
theorem ok86 : e86.Ok Tryd.prog 86 := ⟨Tryd.underlying86, Tryd.t86, by kernel_rfl, by kernel_rfl, by kernel_rfl, by kernel_rfl⟩
abbrev e87 : TE := ⟨.struct #[{ name := "N", type := 3, offset := 0, embedded := false, tag := "", pkgPath := "", byteOffset := 0 }, { name := "Has", type := 22, offset := 1, embedded := false, tag := "", pkgPath := "", byteOffset := 8 }], 2, 32, .agg #[.int .i64 0, .slice none 0 0]⟩
theorem ok87 : e87.Ok Tryd.prog 87 := ⟨Tryd.underlying87, Tryd.t87, by kernel_rfl, by kernel_rfl, by kernel_rfl, by kernel_rfl⟩
abbrev e88 : TE := ⟨.slice 31, 1, 24, .slice none 0 0⟩
theorem ok88 : e88.Ok Tryd.prog 88 := ⟨Tryd.underlying88, Tryd.t88, by kernel_rfl, by kernel_rfl, by kernel_rfl, by kernel_rfl⟩
abbrev e89 : TE := ⟨.struct #[{ name := "V", type := 87, offset := 0, embedded := false, tag := "", pkgPath := "", byteOffset := 0 }, { name := "Was", type := 62, offset := 2, embedded := false, tag := "", pkgPath := "", byteOffset := 32 }, { name := "Said", type := 22, offset := 33, embedded := false, tag := "", pkgPath := "", byteOffset := 64 }, { name := "Heard", type := 88, offset := 34, embedded := false, tag := "", pkgPath := "", byteOffset := 88 }], 35, 112, .agg ([Value.int .i64 0, Value.slice none 0 0] ++ List.replicate 31 (Value.bool false) ++ [Value.slice none 0 0, Value.slice none 0 0]).toArray⟩
theorem ok89 : e89.Ok Tryd.prog 89 := ⟨Tryd.underlying89, Tryd.t89, by kernel_rfl, by kernel_rfl, by kernel_rfl, by kernel_rfl⟩
abbrev e90 : TE := ⟨.struct #[{ name := "V", type := 87, offset := 0, embedded := false, tag := "", pkgPath := "", byteOffset := 0 }, { name := "Was", type := 62, offset := 2, embedded := false, tag := "", pkgPath := "", byteOffset := 32 }, { name := "Said", type := 22, offset := 33, embedded := false, tag := "", pkgPath := "", byteOffset := 64 }, { name := "Heard", type := 88, offset := 34, embedded := false, tag := "", pkgPath := "", byteOffset := 88 }], 35, 112, .agg ([Value.int .i64 0, Value.slice none 0 0] ++ List.replicate 31 (Value.bool false) ++ [Value.slice none 0 0, Value.slice none 0 0]).toArray⟩
theorem ok90 : e90.Ok Tryd.prog 90 := ⟨Tryd.underlying90, Tryd.t90, by kernel_rfl, by kernel_rfl, by kernel_rfl, by kernel_rfl⟩
abbrev e91 : TE := ⟨.tuple #[87, 26], 1, 0, .tuple #[.agg #[.int .i64 0, .slice none 0 0], .nilIface]⟩
theorem ok91 : e91.Ok Tryd.prog 91 := ⟨Tryd.underlying91, Tryd.t91, by kernel_rfl, by kernel_rfl, by kernel_rfl, by kernel_rfl⟩
abbrev e92 : TE := ⟨.func #[22] #[87, 26] false, 1, 8, .nilFunc⟩
theorem ok92 : e92.Ok Tryd.prog 92 := ⟨Tryd.underlying92, Tryd.t92, by kernel_rfl, by kernel_rfl, by kernel_rfl, by kernel_rfl⟩
abbrev e93 : TE := ⟨.func #[87, 87] #[4] false, 1, 8, .nilFunc⟩
theorem ok93 : e93.Ok Tryd.prog 93 := ⟨Tryd.underlying93, Tryd.t93, by kernel_rfl, by kernel_rfl, by kernel_rfl, by kernel_rfl⟩
abbrev e94 : TE := ⟨.func #[] #[87] false, 1, 8, .nilFunc⟩
theorem ok94 : e94.Ok Tryd.prog 94 := ⟨Tryd.underlying94, Tryd.t94, by kernel_rfl, by kernel_rfl, by kernel_rfl, by kernel_rfl⟩
abbrev e95 : TE := ⟨.func #[3, 23, 23] #[4] false, 1, 8, .nilFunc⟩
theorem ok95 : e95.Ok Tryd.prog 95 := ⟨Tryd.underlying95, Tryd.t95, by kernel_rfl, by kernel_rfl, by kernel_rfl, by kernel_rfl⟩
abbrev e96 : TE := ⟨.pointer 168, 1, 8, .pointer none⟩
theorem ok96 : e96.Ok Tryd.prog 96 := ⟨Tryd.underlying96, Tryd.t96, by kernel_rfl, by kernel_rfl, by kernel_rfl, by kernel_rfl⟩
abbrev e97 : TE := ⟨.func #[] #[96] false, 1, 8, .nilFunc⟩
theorem ok97 : e97.Ok Tryd.prog 97 := ⟨Tryd.underlying97, Tryd.t97, by kernel_rfl, by kernel_rfl, by kernel_rfl, by kernel_rfl⟩
abbrev e98 : TE := ⟨.func #[100] #[26] false, 1, 8, .nilFunc⟩
theorem ok98 : e98.Ok Tryd.prog 98 := ⟨Tryd.underlying98, Tryd.t98, by kernel_rfl, by kernel_rfl, by kernel_rfl, by kernel_rfl⟩
abbrev e99 : TE := ⟨.struct #[{ name := "Who", type := 3, offset := 0, embedded := false, tag := "", pkgPath := "", byteOffset := 0 }, { name := "What", type := 3, offset := 1, embedded := false, tag := "", pkgPath := "", byteOffset := 8 }, { name := "Word", type := 3, offset := 2, embedded := false, tag := "", pkgPath := "", byteOffset := 16 }], 3, 24, .agg #[.int .i64 0, .int .i64 0, .int .i64 0]⟩
theorem ok99 : e99.Ok Tryd.prog 99 := ⟨Tryd.underlying99, Tryd.t99, by kernel_rfl, by kernel_rfl, by kernel_rfl, by kernel_rfl⟩
abbrev e100 : TE := ⟨.struct #[{ name := "Who", type := 3, offset := 0, embedded := false, tag := "", pkgPath := "", byteOffset := 0 }, { name := "What", type := 3, offset := 1, embedded := false, tag := "", pkgPath := "", byteOffset := 8 }, { name := "Word", type := 3, offset := 2, embedded := false, tag := "", pkgPath := "", byteOffset := 16 }], 3, 24, .agg #[.int .i64 0, .int .i64 0, .int .i64 0]⟩
theorem ok100 : e100.Ok Tryd.prog 100 := ⟨Tryd.underlying100, Tryd.t100, by kernel_rfl, by kernel_rfl, by kernel_rfl, by kernel_rfl⟩
abbrev e101 : TE := ⟨.func #[] #[3] false, 1, 8, .nilFunc⟩
theorem ok101 : e101.Ok Tryd.prog 101 := ⟨Tryd.underlying101, Tryd.t101, by kernel_rfl, by kernel_rfl, by kernel_rfl, by kernel_rfl⟩
abbrev e102 : TE := ⟨.func #[22, 3] #[3] false, 1, 8, .nilFunc⟩
theorem ok102 : e102.Ok Tryd.prog 102 := ⟨Tryd.underlying102, Tryd.t102, by kernel_rfl, by kernel_rfl, by kernel_rfl, by kernel_rfl⟩
abbrev e103 : TE := ⟨.slice 100, 1, 24, .slice none 0 0⟩
theorem ok103 : e103.Ok Tryd.prog 103 := ⟨Tryd.underlying103, Tryd.t103, by kernel_rfl, by kernel_rfl, by kernel_rfl, by kernel_rfl⟩
abbrev e104 : TE := ⟨.func #[] #[103] false, 1, 8, .nilFunc⟩
theorem ok104 : e104.Ok Tryd.prog 104 := ⟨Tryd.underlying104, Tryd.t104, by kernel_rfl, by kernel_rfl, by kernel_rfl, by kernel_rfl⟩
abbrev e105 : TE := ⟨.func #[3, 3] #[4] false, 1, 8, .nilFunc⟩
theorem ok105 : e105.Ok Tryd.prog 105 := ⟨Tryd.underlying105, Tryd.t105, by kernel_rfl, by kernel_rfl, by kernel_rfl, by kernel_rfl⟩
abbrev e106 : TE := ⟨.func #[] #[26] false, 1, 8, .nilFunc⟩
theorem ok106 : e106.Ok Tryd.prog 106 := ⟨Tryd.underlying106, Tryd.t106, by kernel_rfl, by kernel_rfl, by kernel_rfl, by kernel_rfl⟩
abbrev e107 : TE := ⟨.func #[103] #[3, 26] false, 1, 8, .nilFunc⟩
theorem ok107 : e107.Ok Tryd.prog 107 := ⟨Tryd.underlying107, Tryd.t107, by kernel_rfl, by kernel_rfl, by kernel_rfl, by kernel_rfl⟩
abbrev e108 : TE := ⟨.func #[3, 3, 3] #[4] false, 1, 8, .nilFunc⟩
theorem ok108 : e108.Ok Tryd.prog 108 := ⟨Tryd.underlying108, Tryd.t108, by kernel_rfl, by kernel_rfl, by kernel_rfl, by kernel_rfl⟩
abbrev e109 : TE := ⟨.func #[103] #[3] false, 1, 8, .nilFunc⟩
theorem ok109 : e109.Ok Tryd.prog 109 := ⟨Tryd.underlying109, Tryd.t109, by kernel_rfl, by kernel_rfl, by kernel_rfl, by kernel_rfl⟩
abbrev e110 : TE := ⟨.func #[103] #[23] false, 1, 8, .nilFunc⟩
theorem ok110 : e110.Ok Tryd.prog 110 := ⟨Tryd.underlying110, Tryd.t110, by kernel_rfl, by kernel_rfl, by kernel_rfl, by kernel_rfl⟩
abbrev e111 : TE := ⟨.func #[103] #[22] false, 1, 8, .nilFunc⟩
theorem ok111 : e111.Ok Tryd.prog 111 := ⟨Tryd.underlying111, Tryd.t111, by kernel_rfl, by kernel_rfl, by kernel_rfl, by kernel_rfl⟩
abbrev e112 : TE := ⟨.tuple #[23, 26], 1, 0, .tuple #[.slice none 0 0, .nilIface]⟩
theorem ok112 : e112.Ok Tryd.prog 112 := ⟨Tryd.underlying112, Tryd.t112, by kernel_rfl, by kernel_rfl, by kernel_rfl, by kernel_rfl⟩
abbrev e113 : TE := ⟨.func #[103] #[23, 26] false, 1, 8, .nilFunc⟩
theorem ok113 : e113.Ok Tryd.prog 113 := ⟨Tryd.underlying113, Tryd.t113, by kernel_rfl, by kernel_rfl, by kernel_rfl, by kernel_rfl⟩
abbrev e114 : TE := ⟨.func #[23, 23] #[4] false, 1, 8, .nilFunc⟩
theorem ok114 : e114.Ok Tryd.prog 114 := ⟨Tryd.underlying114, Tryd.t114, by kernel_rfl, by kernel_rfl, by kernel_rfl, by kernel_rfl⟩
abbrev e115 : TE := ⟨.func #[103] #[22, 26] false, 1, 8, .nilFunc⟩
theorem ok115 : e115.Ok Tryd.prog 115 := ⟨Tryd.underlying115, Tryd.t115, by kernel_rfl, by kernel_rfl, by kernel_rfl, by kernel_rfl⟩
abbrev e116 : TE := ⟨.func #[103] #[4] false, 1, 8, .nilFunc⟩
theorem ok116 : e116.Ok Tryd.prog 116 := ⟨Tryd.underlying116, Tryd.t116, by kernel_rfl, by kernel_rfl, by kernel_rfl, by kernel_rfl⟩
abbrev e117 : TE := ⟨.func #[103, 103] #[4] false, 1, 8, .nilFunc⟩
theorem ok117 : e117.Ok Tryd.prog 117 := ⟨Tryd.underlying117, Tryd.t117, by kernel_rfl, by kernel_rfl, by kernel_rfl, by kernel_rfl⟩
abbrev e118 : TE := ⟨.struct #[{ name := "Fifo", type := 4, offset := 0, embedded := false, tag := "", pkgPath := "", byteOffset := 0 }, { name := "Causal", type := 4, offset := 1, embedded := false, tag := "", pkgPath := "", byteOffset := 1 }, { name := "Total", type := 4, offset := 2, embedded := false, tag := "", pkgPath := "", byteOffset := 2 }], 3, 3, .agg #[.bool false, .bool false, .bool false]⟩
theorem ok118 : e118.Ok Tryd.prog 118 := ⟨Tryd.underlying118, Tryd.t118, by kernel_rfl, by kernel_rfl, by kernel_rfl, by kernel_rfl⟩
abbrev e119 : TE := ⟨.struct #[{ name := "Fifo", type := 4, offset := 0, embedded := false, tag := "", pkgPath := "", byteOffset := 0 }, { name := "Causal", type := 4, offset := 1, embedded := false, tag := "", pkgPath := "", byteOffset := 1 }, { name := "Total", type := 4, offset := 2, embedded := false, tag := "", pkgPath := "", byteOffset := 2 }], 3, 3, .agg #[.bool false, .bool false, .bool false]⟩
theorem ok119 : e119.Ok Tryd.prog 119 := ⟨Tryd.underlying119, Tryd.t119, by kernel_rfl, by kernel_rfl, by kernel_rfl, by kernel_rfl⟩
abbrev e120 : TE := ⟨.tuple #[119, 26], 1, 0, .tuple #[.agg #[.bool false, .bool false, .bool false], .nilIface]⟩
theorem ok120 : e120.Ok Tryd.prog 120 := ⟨Tryd.underlying120, Tryd.t120, by kernel_rfl, by kernel_rfl, by kernel_rfl, by kernel_rfl⟩
abbrev e121 : TE := ⟨.func #[] #[119, 26] false, 1, 8, .nilFunc⟩
theorem ok121 : e121.Ok Tryd.prog 121 := ⟨Tryd.underlying121, Tryd.t121, by kernel_rfl, by kernel_rfl, by kernel_rfl, by kernel_rfl⟩
abbrev e122 : TE := ⟨.func #[103] #[119, 26] false, 1, 8, .nilFunc⟩
theorem ok122 : e122.Ok Tryd.prog 122 := ⟨Tryd.underlying122, Tryd.t122, by kernel_rfl, by kernel_rfl, by kernel_rfl, by kernel_rfl⟩
abbrev e123 : TE := ⟨.func #[103, 22, 22, 22] #[4] false, 1, 8, .nilFunc⟩
theorem ok123 : e123.Ok Tryd.prog 123 := ⟨Tryd.underlying123, Tryd.t123, by kernel_rfl, by kernel_rfl, by kernel_rfl, by kernel_rfl⟩
abbrev e124 : TE := ⟨.func #[3] #[4] false, 1, 8, .nilFunc⟩
theorem ok124 : e124.Ok Tryd.prog 124 := ⟨Tryd.underlying124, Tryd.t124, by kernel_rfl, by kernel_rfl, by kernel_rfl, by kernel_rfl⟩
abbrev e125 : TE := ⟨.func #[22, 124] #[4] false, 1, 8, .nilFunc⟩
theorem ok125 : e125.Ok Tryd.prog 125 := ⟨Tryd.underlying125, Tryd.t125, by kernel_rfl, by kernel_rfl, by kernel_rfl, by kernel_rfl⟩
abbrev e126 : TE := ⟨.int .i64, 1, 8, .int .i64 0⟩
theorem ok126 : e126.Ok Tryd.prog 126 := ⟨Tryd.underlying126, Tryd.t126, by kernel_rfl, by kernel_rfl, by kernel_rfl, by kernel_rfl⟩
abbrev e127 : TE := ⟨.func #[22] #[22] false, 1, 8, .nilFunc⟩
theorem ok127 : e127.Ok Tryd.prog 127 := ⟨Tryd.underlying127, Tryd.t127, by kernel_rfl, by kernel_rfl, by kernel_rfl, by kernel_rfl⟩
abbrev e128 : TE := ⟨.map 135 22, 1, 8, .map none⟩
theorem ok128 : e128.Ok Tryd.prog 128 := ⟨Tryd.underlying128, Tryd.t128, by kernel_rfl, by kernel_rfl, by kernel_rfl, by kernel_rfl⟩
abbrev e129 : TE := ⟨.map 3 3, 1, 8, .map none⟩
theorem ok129 : e129.Ok Tryd.prog 129 := ⟨Tryd.underlying129, Tryd.t129, by kernel_rfl, by kernel_rfl, by kernel_rfl, by kernel_rfl⟩
abbrev e130 : TE := ⟨.map 135 3, 1, 8, .map none⟩
theorem ok130 : e130.Ok Tryd.prog 130 := ⟨Tryd.underlying130, Tryd.t130, by kernel_rfl, by kernel_rfl, by kernel_rfl, by kernel_rfl⟩
abbrev e131 : TE := ⟨.struct #[{ name := "gold", type := 22, offset := 0, embedded := false, tag := "", pkgPath := "mootbell/picture", byteOffset := 0 }, { name := "ways", type := 128, offset := 1, embedded := false, tag := "", pkgPath := "mootbell/picture", byteOffset := 24 }, { name := "begun", type := 4, offset := 2, embedded := false, tag := "", pkgPath := "mootbell/picture", byteOffset := 32 }, { name := "wrote", type := 129, offset := 3, embedded := false, tag := "", pkgPath := "mootbell/picture", byteOffset := 40 }, { name := "open", type := 130, offset := 4, embedded := false, tag := "", pkgPath := "mootbell/picture", byteOffset := 48 }, { name := "onWay", type := 3, offset := 5, embedded := false, tag := "", pkgPath := "mootbell/picture", byteOffset := 56 }], 6, 64, .agg #[.slice none 0 0, .map none, .bool false, .map none, .map none, .int .i64 0]⟩
theorem ok131 : e131.Ok Tryd.prog 131 := ⟨Tryd.underlying131, Tryd.t131, by kernel_rfl, by kernel_rfl, by kernel_rfl, by kernel_rfl⟩
abbrev e132 : TE := ⟨.struct #[{ name := "gold", type := 22, offset := 0, embedded := false, tag := "", pkgPath := "mootbell/picture", byteOffset := 0 }, { name := "ways", type := 128, offset := 1, embedded := false, tag := "", pkgPath := "mootbell/picture", byteOffset := 24 }, { name := "begun", type := 4, offset := 2, embedded := false, tag := "", pkgPath := "mootbell/picture", byteOffset := 32 }, { name := "wrote", type := 129, offset := 3, embedded := false, tag := "", pkgPath := "mootbell/picture", byteOffset := 40 }, { name := "open", type := 130, offset := 4, embedded := false, tag := "", pkgPath := "mootbell/picture", byteOffset := 48 }, { name := "onWay", type := 3, offset := 5, embedded := false, tag := "", pkgPath := "mootbell/picture", byteOffset := 56 }], 6, 64, .agg #[.slice none 0 0, .map none, .bool false, .map none, .map none, .int .i64 0]⟩
theorem ok132 : e132.Ok Tryd.prog 132 := ⟨Tryd.underlying132, Tryd.t132, by kernel_rfl, by kernel_rfl, by kernel_rfl, by kernel_rfl⟩
abbrev e133 : TE := ⟨.func #[26] #[126] false, 1, 8, .nilFunc⟩
theorem ok133 : e133.Ok Tryd.prog 133 := ⟨Tryd.underlying133, Tryd.t133, by kernel_rfl, by kernel_rfl, by kernel_rfl, by kernel_rfl⟩
abbrev e134 : TE := ⟨.struct #[{ name := "from", type := 3, offset := 0, embedded := false, tag := "", pkgPath := "mootbell/picture", byteOffset := 0 }, { name := "to", type := 3, offset := 1, embedded := false, tag := "", pkgPath := "mootbell/picture", byteOffset := 8 }], 2, 16, .agg #[.int .i64 0, .int .i64 0]⟩
theorem ok134 : e134.Ok Tryd.prog 134 := ⟨Tryd.underlying134, Tryd.t134, by kernel_rfl, by kernel_rfl, by kernel_rfl, by kernel_rfl⟩
abbrev e135 : TE := ⟨.struct #[{ name := "from", type := 3, offset := 0, embedded := false, tag := "", pkgPath := "mootbell/picture", byteOffset := 0 }, { name := "to", type := 3, offset := 1, embedded := false, tag := "", pkgPath := "mootbell/picture", byteOffset := 8 }], 2, 16, .agg #[.int .i64 0, .int .i64 0]⟩
theorem ok135 : e135.Ok Tryd.prog 135 := ⟨Tryd.underlying135, Tryd.t135, by kernel_rfl, by kernel_rfl, by kernel_rfl, by kernel_rfl⟩
abbrev e136 : TE := ⟨.func #[135] #[26] false, 1, 8, .nilFunc⟩
theorem ok136 : e136.Ok Tryd.prog 136 := ⟨Tryd.underlying136, Tryd.t136, by kernel_rfl, by kernel_rfl, by kernel_rfl, by kernel_rfl⟩
abbrev e137 : TE := ⟨.func #[135] #[] false, 1, 8, .nilFunc⟩
theorem ok137 : e137.Ok Tryd.prog 137 := ⟨Tryd.underlying137, Tryd.t137, by kernel_rfl, by kernel_rfl, by kernel_rfl, by kernel_rfl⟩
abbrev e138 : TE := ⟨.tuple #[3, 4], 1, 0, .tuple #[.int .i64 0, .bool false]⟩
theorem ok138 : e138.Ok Tryd.prog 138 := ⟨Tryd.underlying138, Tryd.t138, by kernel_rfl, by kernel_rfl, by kernel_rfl, by kernel_rfl⟩
abbrev e139 : TE := ⟨.map 3 149, 1, 8, .map none⟩
theorem ok139 : e139.Ok Tryd.prog 139 := ⟨Tryd.underlying139, Tryd.t139, by kernel_rfl, by kernel_rfl, by kernel_rfl, by kernel_rfl⟩
abbrev e140 : TE := ⟨.map 3 22, 1, 8, .map none⟩
theorem ok140 : e140.Ok Tryd.prog 140 := ⟨Tryd.underlying140, Tryd.t140, by kernel_rfl, by kernel_rfl, by kernel_rfl, by kernel_rfl⟩
abbrev e141 : TE := ⟨.slice 144, 1, 24, .slice none 0 0⟩
theorem ok141 : e141.Ok Tryd.prog 141 := ⟨Tryd.underlying141, Tryd.t141, by kernel_rfl, by kernel_rfl, by kernel_rfl, by kernel_rfl⟩
abbrev e142 : TE := ⟨.struct #[{ name := "members", type := 141, offset := 0, embedded := false, tag := "", pkgPath := "mootbell/agree", byteOffset := 0 }, { name := "given", type := 139, offset := 1, embedded := false, tag := "", pkgPath := "mootbell/agree", byteOffset := 24 }, { name := "who", type := 140, offset := 2, embedded := false, tag := "", pkgPath := "mootbell/agree", byteOffset := 32 }], 3, 40, .agg #[.slice none 0 0, .map none, .map none]⟩
theorem ok142 : e142.Ok Tryd.prog 142 := ⟨Tryd.underlying142, Tryd.t142, by kernel_rfl, by kernel_rfl, by kernel_rfl, by kernel_rfl⟩
abbrev e143 : TE := ⟨.struct #[{ name := "members", type := 141, offset := 0, embedded := false, tag := "", pkgPath := "mootbell/agree", byteOffset := 0 }, { name := "given", type := 139, offset := 1, embedded := false, tag := "", pkgPath := "mootbell/agree", byteOffset := 24 }, { name := "who", type := 140, offset := 2, embedded := false, tag := "", pkgPath := "mootbell/agree", byteOffset := 32 }], 3, 40, .agg #[.slice none 0 0, .map none, .map none]⟩
theorem ok143 : e143.Ok Tryd.prog 143 := ⟨Tryd.underlying143, Tryd.t143, by kernel_rfl, by kernel_rfl, by kernel_rfl, by kernel_rfl⟩
abbrev e144 : TE := ⟨.pointer 148, 1, 8, .pointer none⟩
theorem ok144 : e144.Ok Tryd.prog 144 := ⟨Tryd.underlying144, Tryd.t144, by kernel_rfl, by kernel_rfl, by kernel_rfl, by kernel_rfl⟩
abbrev e145 : TE := ⟨.map 3 153, 1, 8, .map none⟩
theorem ok145 : e145.Ok Tryd.prog 145 := ⟨Tryd.underlying145, Tryd.t145, by kernel_rfl, by kernel_rfl, by kernel_rfl, by kernel_rfl⟩
abbrev e146 : TE := ⟨.map 3 4, 1, 8, .map none⟩
theorem ok146 : e146.Ok Tryd.prog 146 := ⟨Tryd.underlying146, Tryd.t146, by kernel_rfl, by kernel_rfl, by kernel_rfl, by kernel_rfl⟩
abbrev e147 : TE := ⟨.struct #[{ name := "n", type := 3, offset := 0, embedded := false, tag := "", pkgPath := "mootbell/agree", byteOffset := 0 }, { name := "waits", type := 145, offset := 1, embedded := false, tag := "", pkgPath := "mootbell/agree", byteOffset := 8 }, { name := "knew", type := 146, offset := 2, embedded := false, tag := "", pkgPath := "mootbell/agree", byteOffset := 16 }, { name := "heard", type := 22, offset := 3, embedded := false, tag := "", pkgPath := "mootbell/agree", byteOffset := 24 }], 4, 48, .agg #[.int .i64 0, .map none, .map none, .slice none 0 0]⟩
theorem ok147 : e147.Ok Tryd.prog 147 := ⟨Tryd.underlying147, Tryd.t147, by kernel_rfl, by kernel_rfl, by kernel_rfl, by kernel_rfl⟩
abbrev e148 : TE := ⟨.struct #[{ name := "n", type := 3, offset := 0, embedded := false, tag := "", pkgPath := "mootbell/agree", byteOffset := 0 }, { name := "waits", type := 145, offset := 1, embedded := false, tag := "", pkgPath := "mootbell/agree", byteOffset := 8 }, { name := "knew", type := 146, offset := 2, embedded := false, tag := "", pkgPath := "mootbell/agree", byteOffset := 16 }, { name := "heard", type := 22, offset := 3, embedded := false, tag := "", pkgPath := "mootbell/agree", byteOffset := 24 }], 4, 48, .agg #[.int .i64 0, .map none, .map none, .slice none 0 0]⟩
theorem ok148 : e148.Ok Tryd.prog 148 := ⟨Tryd.underlying148, Tryd.t148, by kernel_rfl, by kernel_rfl, by kernel_rfl, by kernel_rfl⟩
abbrev e149 : TE := ⟨.slice 64, 1, 24, .slice none 0 0⟩
theorem ok149 : e149.Ok Tryd.prog 149 := ⟨Tryd.underlying149, Tryd.t149, by kernel_rfl, by kernel_rfl, by kernel_rfl, by kernel_rfl⟩
abbrev e150 : TE := ⟨.tuple #[149, 4], 1, 0, .tuple #[.slice none 0 0, .bool false]⟩
theorem ok150 : e150.Ok Tryd.prog 150 := ⟨Tryd.underlying150, Tryd.t150, by kernel_rfl, by kernel_rfl, by kernel_rfl, by kernel_rfl⟩
abbrev e151 : TE := ⟨.func #[22, 3] #[4] false, 1, 8, .nilFunc⟩
theorem ok151 : e151.Ok Tryd.prog 151 := ⟨Tryd.underlying151, Tryd.t151, by kernel_rfl, by kernel_rfl, by kernel_rfl, by kernel_rfl⟩
abbrev e152 : TE := ⟨.struct #[{ name := "stamp", type := 64, offset := 0, embedded := false, tag := "", pkgPath := "mootbell/agree", byteOffset := 0 }, { name := "settled", type := 4, offset := 2, embedded := false, tag := "", pkgPath := "mootbell/agree", byteOffset := 16 }], 3, 24, .agg #[.int .i64 0, .int .i64 0, .bool false]⟩
theorem ok152 : e152.Ok Tryd.prog 152 := ⟨Tryd.underlying152, Tryd.t152, by kernel_rfl, by kernel_rfl, by kernel_rfl, by kernel_rfl⟩
abbrev e153 : TE := ⟨.struct #[{ name := "stamp", type := 64, offset := 0, embedded := false, tag := "", pkgPath := "mootbell/agree", byteOffset := 0 }, { name := "settled", type := 4, offset := 2, embedded := false, tag := "", pkgPath := "mootbell/agree", byteOffset := 16 }], 3, 24, .agg #[.int .i64 0, .int .i64 0, .bool false]⟩
theorem ok153 : e153.Ok Tryd.prog 153 := ⟨Tryd.underlying153, Tryd.t153, by kernel_rfl, by kernel_rfl, by kernel_rfl, by kernel_rfl⟩
abbrev e154 : TE := ⟨.tuple #[64, 4], 1, 0, .tuple #[.agg #[.int .i64 0, .int .i64 0], .bool false]⟩
theorem ok154 : e154.Ok Tryd.prog 154 := ⟨Tryd.underlying154, Tryd.t154, by kernel_rfl, by kernel_rfl, by kernel_rfl, by kernel_rfl⟩
abbrev e155 : TE := ⟨.func #[3] #[64, 4] false, 1, 8, .nilFunc⟩
theorem ok155 : e155.Ok Tryd.prog 155 := ⟨Tryd.underlying155, Tryd.t155, by kernel_rfl, by kernel_rfl, by kernel_rfl, by kernel_rfl⟩
abbrev e156 : TE := ⟨.func #[64, 64] #[4] false, 1, 8, .nilFunc⟩
theorem ok156 : e156.Ok Tryd.prog 156 := ⟨Tryd.underlying156, Tryd.t156, by kernel_rfl, by kernel_rfl, by kernel_rfl, by kernel_rfl⟩
abbrev e157 : TE := ⟨.func #[] #[22] false, 1, 8, .nilFunc⟩
theorem ok157 : e157.Ok Tryd.prog 157 := ⟨Tryd.underlying157, Tryd.t157, by kernel_rfl, by kernel_rfl, by kernel_rfl, by kernel_rfl⟩
abbrev e158 : TE := ⟨.map 166 22, 1, 8, .map none⟩
theorem ok158 : e158.Ok Tryd.prog 158 := ⟨Tryd.underlying158, Tryd.t158, by kernel_rfl, by kernel_rfl, by kernel_rfl, by kernel_rfl⟩
abbrev e159 : TE := ⟨.struct #[{ name := "view", type := 87, offset := 0, embedded := false, tag := "", pkgPath := "mootbell/flush", byteOffset := 0 }, { name := "all", type := 146, offset := 2, embedded := false, tag := "", pkgPath := "mootbell/flush", byteOffset := 32 }, { name := "said", type := 22, offset := 3, embedded := false, tag := "", pkgPath := "mootbell/flush", byteOffset := 40 }, { name := "heard", type := 158, offset := 4, embedded := false, tag := "", pkgPath := "mootbell/flush", byteOffset := 64 }], 5, 72, .agg #[.int .i64 0, .slice none 0 0, .map none, .slice none 0 0, .map none]⟩
theorem ok159 : e159.Ok Tryd.prog 159 := ⟨Tryd.underlying159, Tryd.t159, by kernel_rfl, by kernel_rfl, by kernel_rfl, by kernel_rfl⟩
abbrev e160 : TE := ⟨.struct #[{ name := "view", type := 87, offset := 0, embedded := false, tag := "", pkgPath := "mootbell/flush", byteOffset := 0 }, { name := "all", type := 146, offset := 2, embedded := false, tag := "", pkgPath := "mootbell/flush", byteOffset := 32 }, { name := "said", type := 22, offset := 3, embedded := false, tag := "", pkgPath := "mootbell/flush", byteOffset := 40 }, { name := "heard", type := 158, offset := 4, embedded := false, tag := "", pkgPath := "mootbell/flush", byteOffset := 64 }], 5, 72, .agg #[.int .i64 0, .slice none 0 0, .map none, .slice none 0 0, .map none]⟩
theorem ok160 : e160.Ok Tryd.prog 160 := ⟨Tryd.underlying160, Tryd.t160, by kernel_rfl, by kernel_rfl, by kernel_rfl, by kernel_rfl⟩
abbrev e161 : TE := ⟨.func #[3, 3] #[] false, 1, 8, .nilFunc⟩
theorem ok161 : e161.Ok Tryd.prog 161 := ⟨Tryd.underlying161, Tryd.t161, by kernel_rfl, by kernel_rfl, by kernel_rfl, by kernel_rfl⟩
abbrev e162 : TE := ⟨.func #[87, 22] #[3] false, 1, 8, .nilFunc⟩
theorem ok162 : e162.Ok Tryd.prog 162 := ⟨Tryd.underlying162, Tryd.t162, by kernel_rfl, by kernel_rfl, by kernel_rfl, by kernel_rfl⟩
abbrev e163 : TE := ⟨.func #[22, 22] #[22] false, 1, 8, .nilFunc⟩
theorem ok163 : e163.Ok Tryd.prog 163 := ⟨Tryd.underlying163, Tryd.t163, by kernel_rfl, by kernel_rfl, by kernel_rfl, by kernel_rfl⟩
abbrev e164 : TE := ⟨.func #[87, 22] #[87, 26] false, 1, 8, .nilFunc⟩
theorem ok164 : e164.Ok Tryd.prog 164 := ⟨Tryd.underlying164, Tryd.t164, by kernel_rfl, by kernel_rfl, by kernel_rfl, by kernel_rfl⟩
abbrev e165 : TE := ⟨.struct #[{ name := "n", type := 3, offset := 0, embedded := false, tag := "", pkgPath := "mootbell/flush", byteOffset := 0 }, { name := "who", type := 3, offset := 1, embedded := false, tag := "", pkgPath := "mootbell/flush", byteOffset := 8 }], 2, 16, .agg #[.int .i64 0, .int .i64 0]⟩
theorem ok165 : e165.Ok Tryd.prog 165 := ⟨Tryd.underlying165, Tryd.t165, by kernel_rfl, by kernel_rfl, by kernel_rfl, by kernel_rfl⟩
abbrev e166 : TE := ⟨.struct #[{ name := "n", type := 3, offset := 0, embedded := false, tag := "", pkgPath := "mootbell/flush", byteOffset := 0 }, { name := "who", type := 3, offset := 1, embedded := false, tag := "", pkgPath := "mootbell/flush", byteOffset := 8 }], 2, 16, .agg #[.int .i64 0, .int .i64 0]⟩
theorem ok166 : e166.Ok Tryd.prog 166 := ⟨Tryd.underlying166, Tryd.t166, by kernel_rfl, by kernel_rfl, by kernel_rfl, by kernel_rfl⟩
abbrev e167 : TE := ⟨.struct #[{ name := "h", type := 103, offset := 0, embedded := false, tag := "", pkgPath := "mootbell/log", byteOffset := 0 }, { name := "bytes", type := 9, offset := 1, embedded := false, tag := "", pkgPath := "mootbell/log", byteOffset := 24 }, { name := "safe", type := 3, offset := 2, embedded := false, tag := "", pkgPath := "mootbell/log", byteOffset := 40 }, { name := "left", type := 3, offset := 3, embedded := false, tag := "", pkgPath := "mootbell/log", byteOffset := 48 }, { name := "stopped", type := 4, offset := 4, embedded := false, tag := "", pkgPath := "mootbell/log", byteOffset := 56 }], 5, 64, .agg #[.slice none 0 0, .string ByteArray.empty, .int .i64 0, .int .i64 0, .bool false]⟩
theorem ok167 : e167.Ok Tryd.prog 167 := ⟨Tryd.underlying167, Tryd.t167, by kernel_rfl, by kernel_rfl, by kernel_rfl, by kernel_rfl⟩
abbrev e168 : TE := ⟨.struct #[{ name := "h", type := 103, offset := 0, embedded := false, tag := "", pkgPath := "mootbell/log", byteOffset := 0 }, { name := "bytes", type := 9, offset := 1, embedded := false, tag := "", pkgPath := "mootbell/log", byteOffset := 24 }, { name := "safe", type := 3, offset := 2, embedded := false, tag := "", pkgPath := "mootbell/log", byteOffset := 40 }, { name := "left", type := 3, offset := 3, embedded := false, tag := "", pkgPath := "mootbell/log", byteOffset := 48 }, { name := "stopped", type := 4, offset := 4, embedded := false, tag := "", pkgPath := "mootbell/log", byteOffset := 56 }], 5, 64, .agg #[.slice none 0 0, .string ByteArray.empty, .int .i64 0, .int .i64 0, .bool false]⟩
theorem ok168 : e168.Ok Tryd.prog 168 := ⟨Tryd.underlying168, Tryd.t168, by kernel_rfl, by kernel_rfl, by kernel_rfl, by kernel_rfl⟩
abbrev e169 : TE := ⟨.func #[103] #[103] false, 1, 8, .nilFunc⟩
theorem ok169 : e169.Ok Tryd.prog 169 := ⟨Tryd.underlying169, Tryd.t169, by kernel_rfl, by kernel_rfl, by kernel_rfl, by kernel_rfl⟩
abbrev e170 : TE := ⟨.func #[103] #[26] false, 1, 8, .nilFunc⟩
theorem ok170 : e170.Ok Tryd.prog 170 := ⟨Tryd.underlying170, Tryd.t170, by kernel_rfl, by kernel_rfl, by kernel_rfl, by kernel_rfl⟩
abbrev e171 : TE := ⟨.func #[3] #[9] false, 1, 8, .nilFunc⟩
theorem ok171 : e171.Ok Tryd.prog 171 := ⟨Tryd.underlying171, Tryd.t171, by kernel_rfl, by kernel_rfl, by kernel_rfl, by kernel_rfl⟩
abbrev e172 : TE := ⟨.func #[9, 9] #[3] false, 1, 8, .nilFunc⟩
theorem ok172 : e172.Ok Tryd.prog 172 := ⟨Tryd.underlying172, Tryd.t172, by kernel_rfl, by kernel_rfl, by kernel_rfl, by kernel_rfl⟩
abbrev e173 : TE := ⟨.func #[103, 100] #[26] false, 1, 8, .nilFunc⟩
theorem ok173 : e173.Ok Tryd.prog 173 := ⟨Tryd.underlying173, Tryd.t173, by kernel_rfl, by kernel_rfl, by kernel_rfl, by kernel_rfl⟩
abbrev e174 : TE := ⟨.func #[103] #[3, 3] false, 1, 8, .nilFunc⟩
theorem ok174 : e174.Ok Tryd.prog 174 := ⟨Tryd.underlying174, Tryd.t174, by kernel_rfl, by kernel_rfl, by kernel_rfl, by kernel_rfl⟩
abbrev e175 : TE := ⟨.array 60 4, 60, 60, .agg (List.replicate 60 (Value.bool false)).toArray⟩
theorem ok175 : e175.Ok Tryd.prog 175 := ⟨Tryd.underlying175, Tryd.t175, by kernel_rfl, by kernel_rfl, by kernel_rfl, by kernel_rfl⟩
abbrev e176 : TE := ⟨.array 60 175, 3600, 3600, .agg (List.replicate 3600 (Value.bool false)).toArray⟩
theorem ok176 : e176.Ok Tryd.prog 176 := ⟨Tryd.underlying176, Tryd.t176, by kernel_rfl, by kernel_rfl, by kernel_rfl, by kernel_rfl⟩
abbrev e177 : TE := ⟨.func #[103] #[176] false, 1, 8, .nilFunc⟩
theorem ok177 : e177.Ok Tryd.prog 177 := ⟨Tryd.underlying177, Tryd.t177, by kernel_rfl, by kernel_rfl, by kernel_rfl, by kernel_rfl⟩
abbrev e178 : TE := ⟨.func #[22, 40] #[] false, 1, 8, .nilFunc⟩
theorem ok178 : e178.Ok Tryd.prog 178 := ⟨Tryd.underlying178, Tryd.t178, by kernel_rfl, by kernel_rfl, by kernel_rfl, by kernel_rfl⟩
abbrev e179 : TE := ⟨.func #[22] #[3] true, 1, 8, .nilFunc⟩
theorem ok179 : e179.Ok Tryd.prog 179 := ⟨Tryd.underlying179, Tryd.t179, by kernel_rfl, by kernel_rfl, by kernel_rfl, by kernel_rfl⟩
abbrev e180 : TE := ⟨.slice 182, 1, 24, .slice none 0 0⟩
theorem ok180 : e180.Ok Tryd.prog 180 := ⟨Tryd.underlying180, Tryd.t180, by kernel_rfl, by kernel_rfl, by kernel_rfl, by kernel_rfl⟩
abbrev e181 : TE := ⟨.func #[103] #[180] false, 1, 8, .nilFunc⟩
theorem ok181 : e181.Ok Tryd.prog 181 := ⟨Tryd.underlying181, Tryd.t181, by kernel_rfl, by kernel_rfl, by kernel_rfl, by kernel_rfl⟩
abbrev e182 : TE := ⟨.slice 4, 1, 24, .slice none 0 0⟩
theorem ok182 : e182.Ok Tryd.prog 182 := ⟨Tryd.underlying182, Tryd.t182, by kernel_rfl, by kernel_rfl, by kernel_rfl, by kernel_rfl⟩
abbrev e183 : TE := ⟨.func #[103, 3, 3] #[4] false, 1, 8, .nilFunc⟩
theorem ok183 : e183.Ok Tryd.prog 183 := ⟨Tryd.underlying183, Tryd.t183, by kernel_rfl, by kernel_rfl, by kernel_rfl, by kernel_rfl⟩
abbrev e184 : TE := ⟨.func #[103, 3] #[22] false, 1, 8, .nilFunc⟩
theorem ok184 : e184.Ok Tryd.prog 184 := ⟨Tryd.underlying184, Tryd.t184, by kernel_rfl, by kernel_rfl, by kernel_rfl, by kernel_rfl⟩
abbrev e185 : TE := ⟨.func #[22, 124] #[3] false, 1, 8, .nilFunc⟩
theorem ok185 : e185.Ok Tryd.prog 185 := ⟨Tryd.underlying185, Tryd.t185, by kernel_rfl, by kernel_rfl, by kernel_rfl, by kernel_rfl⟩
abbrev e186 : TE := ⟨.func #[26, 20] #[4] false, 1, 8, .nilFunc⟩
theorem ok186 : e186.Ok Tryd.prog 186 := ⟨Tryd.underlying186, Tryd.t186, by kernel_rfl, by kernel_rfl, by kernel_rfl, by kernel_rfl⟩
abbrev e187 : TE := ⟨.pointer 126, 1, 8, .pointer none⟩
theorem ok187 : e187.Ok Tryd.prog 187 := ⟨Tryd.underlying187, Tryd.t187, by kernel_rfl, by kernel_rfl, by kernel_rfl, by kernel_rfl⟩
abbrev e188 : TE := ⟨.func #[87] #[26] false, 1, 8, .nilFunc⟩
theorem ok188 : e188.Ok Tryd.prog 188 := ⟨Tryd.underlying188, Tryd.t188, by kernel_rfl, by kernel_rfl, by kernel_rfl, by kernel_rfl⟩
abbrev e189 : TE := ⟨.func #[22] #[26] false, 1, 8, .nilFunc⟩
theorem ok189 : e189.Ok Tryd.prog 189 := ⟨Tryd.underlying189, Tryd.t189, by kernel_rfl, by kernel_rfl, by kernel_rfl, by kernel_rfl⟩
abbrev e190 : TE := ⟨.func #[22, 124] #[22] false, 1, 8, .nilFunc⟩
theorem ok190 : e190.Ok Tryd.prog 190 := ⟨Tryd.underlying190, Tryd.t190, by kernel_rfl, by kernel_rfl, by kernel_rfl, by kernel_rfl⟩
abbrev e191 : TE := ⟨.func #[9, 5] #[3] false, 1, 8, .nilFunc⟩
theorem ok191 : e191.Ok Tryd.prog 191 := ⟨Tryd.underlying191, Tryd.t191, by kernel_rfl, by kernel_rfl, by kernel_rfl, by kernel_rfl⟩
abbrev e192 : TE := ⟨.func #[9] #[3] false, 1, 8, .nilFunc⟩
theorem ok192 : e192.Ok Tryd.prog 192 := ⟨Tryd.underlying192, Tryd.t192, by kernel_rfl, by kernel_rfl, by kernel_rfl, by kernel_rfl⟩
abbrev e193 : TE := ⟨.func #[100] #[4] false, 1, 8, .nilFunc⟩
theorem ok193 : e193.Ok Tryd.prog 193 := ⟨Tryd.underlying193, Tryd.t193, by kernel_rfl, by kernel_rfl, by kernel_rfl, by kernel_rfl⟩
abbrev e194 : TE := ⟨.func #[103, 3] #[3] false, 1, 8, .nilFunc⟩
theorem ok194 : e194.Ok Tryd.prog 194 := ⟨Tryd.underlying194, Tryd.t194, by kernel_rfl, by kernel_rfl, by kernel_rfl, by kernel_rfl⟩
abbrev e195 : TE := ⟨.func #[103, 100] #[4] false, 1, 8, .nilFunc⟩
theorem ok195 : e195.Ok Tryd.prog 195 := ⟨Tryd.underlying195, Tryd.t195, by kernel_rfl, by kernel_rfl, by kernel_rfl, by kernel_rfl⟩
abbrev e196 : TE := ⟨.func #[22, 3, 3, 3, 40] #[] false, 1, 8, .nilFunc⟩
theorem ok196 : e196.Ok Tryd.prog 196 := ⟨Tryd.underlying196, Tryd.t196, by kernel_rfl, by kernel_rfl, by kernel_rfl, by kernel_rfl⟩
abbrev e197 : TE := ⟨.func #[198] #[3] false, 1, 8, .nilFunc⟩
theorem ok197 : e197.Ok Tryd.prog 197 := ⟨Tryd.underlying197, Tryd.t197, by kernel_rfl, by kernel_rfl, by kernel_rfl, by kernel_rfl⟩
abbrev e198 : TE := ⟨.int .u64, 1, 8, .int .u64 0⟩
theorem ok198 : e198.Ok Tryd.prog 198 := ⟨Tryd.underlying198, Tryd.t198, by kernel_rfl, by kernel_rfl, by kernel_rfl, by kernel_rfl⟩
abbrev e199 : TE := ⟨.unsafePointer, 1, 8, .pointer none⟩
theorem ok199 : e199.Ok Tryd.prog 199 := ⟨Tryd.underlying199, Tryd.t199, by kernel_rfl, by kernel_rfl, by kernel_rfl, by kernel_rfl⟩
abbrev e200 : TE := ⟨.int .u64, 1, 8, .int .u64 0⟩
theorem ok200 : e200.Ok Tryd.prog 200 := ⟨Tryd.underlying200, Tryd.t200, by kernel_rfl, by kernel_rfl, by kernel_rfl, by kernel_rfl⟩
abbrev e201 : TE := ⟨.struct #[{ name := "typ_", type := 17, offset := 0, embedded := false, tag := "", pkgPath := "internal/reflectlite", byteOffset := 0 }, { name := "ptr", type := 199, offset := 1, embedded := false, tag := "", pkgPath := "internal/reflectlite", byteOffset := 8 }, { name := "flag", type := 200, offset := 2, embedded := true, tag := "", pkgPath := "internal/reflectlite", byteOffset := 16 }], 3, 24, .agg #[.pointer none, .pointer none, .int .u64 0]⟩
theorem ok201 : e201.Ok Tryd.prog 201 := ⟨Tryd.underlying201, Tryd.t201, by kernel_rfl, by kernel_rfl, by kernel_rfl, by kernel_rfl⟩
abbrev e202 : TE := ⟨.struct #[{ name := "typ_", type := 17, offset := 0, embedded := false, tag := "", pkgPath := "internal/reflectlite", byteOffset := 0 }, { name := "ptr", type := 199, offset := 1, embedded := false, tag := "", pkgPath := "internal/reflectlite", byteOffset := 8 }, { name := "flag", type := 200, offset := 2, embedded := true, tag := "", pkgPath := "internal/reflectlite", byteOffset := 16 }], 3, 24, .agg #[.pointer none, .pointer none, .int .u64 0]⟩
theorem ok202 : e202.Ok Tryd.prog 202 := ⟨Tryd.underlying202, Tryd.t202, by kernel_rfl, by kernel_rfl, by kernel_rfl, by kernel_rfl⟩
abbrev e203 : TE := ⟨.func #[20] #[202] false, 1, 8, .nilFunc⟩
theorem ok203 : e203.Ok Tryd.prog 203 := ⟨Tryd.underlying203, Tryd.t203, by kernel_rfl, by kernel_rfl, by kernel_rfl, by kernel_rfl⟩
abbrev e204 : TE := ⟨.interface #[("AssignableTo", 209), ("Comparable", 52), ("Elem", 206), ("Implements", 209), ("Kind", 208), ("Name", 259), ("PkgPath", 259), ("Size", 273), ("String", 259), ("internal/reflectlite.common", 265), ("internal/reflectlite.uncommon", 274)], 1, 16, .nilIface⟩
theorem ok204 : e204.Ok Tryd.prog 204 := ⟨Tryd.underlying204, Tryd.t204, by kernel_rfl, by kernel_rfl, by kernel_rfl, by kernel_rfl⟩
abbrev e205 : TE := ⟨.interface #[("AssignableTo", 209), ("Comparable", 52), ("Elem", 206), ("Implements", 209), ("Kind", 208), ("Name", 259), ("PkgPath", 259), ("Size", 273), ("String", 259), ("internal/reflectlite.common", 265), ("internal/reflectlite.uncommon", 274)], 1, 16, .nilIface⟩
theorem ok205 : e205.Ok Tryd.prog 205 := ⟨Tryd.underlying205, Tryd.t205, by kernel_rfl, by kernel_rfl, by kernel_rfl, by kernel_rfl⟩
abbrev e206 : TE := ⟨.func #[] #[205] false, 1, 8, .nilFunc⟩
theorem ok206 : e206.Ok Tryd.prog 206 := ⟨Tryd.underlying206, Tryd.t206, by kernel_rfl, by kernel_rfl, by kernel_rfl, by kernel_rfl⟩
abbrev e207 : TE := ⟨.int .u8, 1, 1, .int .u8 0⟩
theorem ok207 : e207.Ok Tryd.prog 207 := ⟨Tryd.underlying207, Tryd.t207, by kernel_rfl, by kernel_rfl, by kernel_rfl, by kernel_rfl⟩
abbrev e208 : TE := ⟨.func #[] #[207] false, 1, 8, .nilFunc⟩
theorem ok208 : e208.Ok Tryd.prog 208 := ⟨Tryd.underlying208, Tryd.t208, by kernel_rfl, by kernel_rfl, by kernel_rfl, by kernel_rfl⟩
abbrev e209 : TE := ⟨.func #[205] #[4] false, 1, 8, .nilFunc⟩
theorem ok209 : e209.Ok Tryd.prog 209 := ⟨Tryd.underlying209, Tryd.t209, by kernel_rfl, by kernel_rfl, by kernel_rfl, by kernel_rfl⟩
abbrev e210 : TE := ⟨.func #[26, 20, 202, 205] #[4] false, 1, 8, .nilFunc⟩
theorem ok210 : e210.Ok Tryd.prog 210 := ⟨Tryd.underlying210, Tryd.t210, by kernel_rfl, by kernel_rfl, by kernel_rfl, by kernel_rfl⟩
abbrev e211 : TE := ⟨.func #[2, 3] #[9] false, 1, 8, .nilFunc⟩
theorem ok211 : e211.Ok Tryd.prog 211 := ⟨Tryd.underlying211, Tryd.t211, by kernel_rfl, by kernel_rfl, by kernel_rfl, by kernel_rfl⟩
abbrev e212 : TE := ⟨.int .u32, 1, 4, .int .u32 0⟩
theorem ok212 : e212.Ok Tryd.prog 212 := ⟨Tryd.underlying212, Tryd.t212, by kernel_rfl, by kernel_rfl, by kernel_rfl, by kernel_rfl⟩
abbrev e213 : TE := ⟨.tuple #[212, 212], 1, 0, .tuple #[.int .u32 0, .int .u32 0]⟩
theorem ok213 : e213.Ok Tryd.prog 213 := ⟨Tryd.underlying213, Tryd.t213, by kernel_rfl, by kernel_rfl, by kernel_rfl, by kernel_rfl⟩
abbrev e214 : TE := ⟨.func #[9] #[212, 212] false, 1, 8, .nilFunc⟩
theorem ok214 : e214.Ok Tryd.prog 214 := ⟨Tryd.underlying214, Tryd.t214, by kernel_rfl, by kernel_rfl, by kernel_rfl, by kernel_rfl⟩
abbrev e215 : TE := ⟨.func #[103, 193] #[3] false, 1, 8, .nilFunc⟩
theorem ok215 : e215.Ok Tryd.prog 215 := ⟨Tryd.underlying215, Tryd.t215, by kernel_rfl, by kernel_rfl, by kernel_rfl, by kernel_rfl⟩
abbrev e216 : TE := ⟨.func #[103, 100] #[3] false, 1, 8, .nilFunc⟩
theorem ok216 : e216.Ok Tryd.prog 216 := ⟨Tryd.underlying216, Tryd.t216, by kernel_rfl, by kernel_rfl, by kernel_rfl, by kernel_rfl⟩
abbrev e217 : TE := ⟨.func #[22, 3, 3, 40] #[] false, 1, 8, .nilFunc⟩
theorem ok217 : e217.Ok Tryd.prog 217 := ⟨Tryd.underlying217, Tryd.t217, by kernel_rfl, by kernel_rfl, by kernel_rfl, by kernel_rfl⟩
abbrev e218 : TE := ⟨.int .i64, 1, 8, .int .i64 0⟩
theorem ok218 : e218.Ok Tryd.prog 218 := ⟨Tryd.underlying218, Tryd.t218, by kernel_rfl, by kernel_rfl, by kernel_rfl, by kernel_rfl⟩
abbrev e219 : TE := ⟨.tuple #[3, 218], 1, 0, .tuple #[.int .i64 0, .int .i64 0]⟩
theorem ok219 : e219.Ok Tryd.prog 219 := ⟨Tryd.underlying219, Tryd.t219, by kernel_rfl, by kernel_rfl, by kernel_rfl, by kernel_rfl⟩
abbrev e220 : TE := ⟨.func #[22, 3, 3, 40] #[3, 218] false, 1, 8, .nilFunc⟩
theorem ok220 : e220.Ok Tryd.prog 220 := ⟨Tryd.underlying220, Tryd.t220, by kernel_rfl, by kernel_rfl, by kernel_rfl, by kernel_rfl⟩
abbrev e221 : TE := ⟨.func #[22, 3, 3, 40] #[4] false, 1, 8, .nilFunc⟩
theorem ok221 : e221.Ok Tryd.prog 221 := ⟨Tryd.underlying221, Tryd.t221, by kernel_rfl, by kernel_rfl, by kernel_rfl, by kernel_rfl⟩
abbrev e222 : TE := ⟨.func #[22, 3, 3, 3, 40] #[3] false, 1, 8, .nilFunc⟩
theorem ok222 : e222.Ok Tryd.prog 222 := ⟨Tryd.underlying222, Tryd.t222, by kernel_rfl, by kernel_rfl, by kernel_rfl, by kernel_rfl⟩
abbrev e223 : TE := ⟨.func #[22, 3, 3, 3, 40] #[3, 4] false, 1, 8, .nilFunc⟩
theorem ok223 : e223.Ok Tryd.prog 223 := ⟨Tryd.underlying223, Tryd.t223, by kernel_rfl, by kernel_rfl, by kernel_rfl, by kernel_rfl⟩
abbrev e224 : TE := ⟨.func #[212] #[3] false, 1, 8, .nilFunc⟩
theorem ok224 : e224.Ok Tryd.prog 224 := ⟨Tryd.underlying224, Tryd.t224, by kernel_rfl, by kernel_rfl, by kernel_rfl, by kernel_rfl⟩
abbrev e225 : TE := ⟨.func #[226] #[3] false, 1, 8, .nilFunc⟩
theorem ok225 : e225.Ok Tryd.prog 225 := ⟨Tryd.underlying225, Tryd.t225, by kernel_rfl, by kernel_rfl, by kernel_rfl, by kernel_rfl⟩
abbrev e226 : TE := ⟨.int .u64, 1, 8, .int .u64 0⟩
theorem ok226 : e226.Ok Tryd.prog 226 := ⟨Tryd.underlying226, Tryd.t226, by kernel_rfl, by kernel_rfl, by kernel_rfl, by kernel_rfl⟩
abbrev e227 : TE := ⟨.struct #[{ name := "Type", type := 17, offset := 0, embedded := true, tag := "", pkgPath := "", byteOffset := 0 }], 1, 8, .agg #[.pointer none]⟩
theorem ok227 : e227.Ok Tryd.prog 227 := ⟨Tryd.underlying227, Tryd.t227, by kernel_rfl, by kernel_rfl, by kernel_rfl, by kernel_rfl⟩
abbrev e228 : TE := ⟨.struct #[{ name := "Type", type := 17, offset := 0, embedded := true, tag := "", pkgPath := "", byteOffset := 0 }], 1, 8, .agg #[.pointer none]⟩
theorem ok228 : e228.Ok Tryd.prog 228 := ⟨Tryd.underlying228, Tryd.t228, by kernel_rfl, by kernel_rfl, by kernel_rfl, by kernel_rfl⟩
abbrev e229 : TE := ⟨.pointer 276, 1, 8, .pointer none⟩
theorem ok229 : e229.Ok Tryd.prog 229 := ⟨Tryd.underlying229, Tryd.t229, by kernel_rfl, by kernel_rfl, by kernel_rfl, by kernel_rfl⟩
abbrev e230 : TE := ⟨.func #[20] #[205] false, 1, 8, .nilFunc⟩
theorem ok230 : e230.Ok Tryd.prog 230 := ⟨Tryd.underlying230, Tryd.t230, by kernel_rfl, by kernel_rfl, by kernel_rfl, by kernel_rfl⟩
abbrev e231 : TE := ⟨.func #[] #[202] false, 1, 8, .nilFunc⟩
theorem ok231 : e231.Ok Tryd.prog 231 := ⟨Tryd.underlying231, Tryd.t231, by kernel_rfl, by kernel_rfl, by kernel_rfl, by kernel_rfl⟩
abbrev e232 : TE := ⟨.func #[202] #[] false, 1, 8, .nilFunc⟩
theorem ok232 : e232.Ok Tryd.prog 232 := ⟨Tryd.underlying232, Tryd.t232, by kernel_rfl, by kernel_rfl, by kernel_rfl, by kernel_rfl⟩
abbrev e233 : TE := ⟨.interface #[("As", 235)], 1, 16, .nilIface⟩
theorem ok233 : e233.Ok Tryd.prog 233 := ⟨Tryd.underlying233, Tryd.t233, by kernel_rfl, by kernel_rfl, by kernel_rfl, by kernel_rfl⟩
abbrev e234 : TE := ⟨.tuple #[233, 4], 1, 0, .tuple #[.nilIface, .bool false]⟩
theorem ok234 : e234.Ok Tryd.prog 234 := ⟨Tryd.underlying234, Tryd.t234, by kernel_rfl, by kernel_rfl, by kernel_rfl, by kernel_rfl⟩
abbrev e235 : TE := ⟨.func #[20] #[4] false, 1, 8, .nilFunc⟩
theorem ok235 : e235.Ok Tryd.prog 235 := ⟨Tryd.underlying235, Tryd.t235, by kernel_rfl, by kernel_rfl, by kernel_rfl, by kernel_rfl⟩
abbrev e236 : TE := ⟨.interface #[("Unwrap", 106)], 1, 16, .nilIface⟩
theorem ok236 : e236.Ok Tryd.prog 236 := ⟨Tryd.underlying236, Tryd.t236, by kernel_rfl, by kernel_rfl, by kernel_rfl, by kernel_rfl⟩
abbrev e237 : TE := ⟨.interface #[("Unwrap", 239)], 1, 16, .nilIface⟩
theorem ok237 : e237.Ok Tryd.prog 237 := ⟨Tryd.underlying237, Tryd.t237, by kernel_rfl, by kernel_rfl, by kernel_rfl, by kernel_rfl⟩
abbrev e238 : TE := ⟨.slice 26, 1, 24, .slice none 0 0⟩
theorem ok238 : e238.Ok Tryd.prog 238 := ⟨Tryd.underlying238, Tryd.t238, by kernel_rfl, by kernel_rfl, by kernel_rfl, by kernel_rfl⟩
abbrev e239 : TE := ⟨.func #[] #[238] false, 1, 8, .nilFunc⟩
theorem ok239 : e239.Ok Tryd.prog 239 := ⟨Tryd.underlying239, Tryd.t239, by kernel_rfl, by kernel_rfl, by kernel_rfl, by kernel_rfl⟩
abbrev e240 : TE := ⟨.array 24 5, 24, 24, .agg (List.replicate 24 (Value.int .u8 0)).toArray⟩
theorem ok240 : e240.Ok Tryd.prog 240 := ⟨Tryd.underlying240, Tryd.t240, by kernel_rfl, by kernel_rfl, by kernel_rfl, by kernel_rfl⟩
abbrev e241 : TE := ⟨.func #[242, 226] #[] false, 1, 8, .nilFunc⟩
theorem ok241 : e241.Ok Tryd.prog 241 := ⟨Tryd.underlying241, Tryd.t241, by kernel_rfl, by kernel_rfl, by kernel_rfl, by kernel_rfl⟩
abbrev e242 : TE := ⟨.slice 5, 1, 24, .slice none 0 0⟩
theorem ok242 : e242.Ok Tryd.prog 242 := ⟨Tryd.underlying242, Tryd.t242, by kernel_rfl, by kernel_rfl, by kernel_rfl, by kernel_rfl⟩
abbrev e243 : TE := ⟨.tuple #[242, 9], 1, 0, .tuple #[.slice none 0 0, .string ByteArray.empty]⟩
theorem ok243 : e243.Ok Tryd.prog 243 := ⟨Tryd.underlying243, Tryd.t243, by kernel_rfl, by kernel_rfl, by kernel_rfl, by kernel_rfl⟩
abbrev e244 : TE := ⟨.func #[242, 226, 3, 4, 4] #[242, 9] false, 1, 8, .nilFunc⟩
theorem ok244 : e244.Ok Tryd.prog 244 := ⟨Tryd.underlying244, Tryd.t244, by kernel_rfl, by kernel_rfl, by kernel_rfl, by kernel_rfl⟩
abbrev e245 : TE := ⟨.func #[3] #[3] false, 1, 8, .nilFunc⟩
theorem ok245 : e245.Ok Tryd.prog 245 := ⟨Tryd.underlying245, Tryd.t245, by kernel_rfl, by kernel_rfl, by kernel_rfl, by kernel_rfl⟩
abbrev e246 : TE := ⟨.int .u64, 1, 8, .int .u64 0⟩
theorem ok246 : e246.Ok Tryd.prog 246 := ⟨Tryd.underlying246, Tryd.t246, by kernel_rfl, by kernel_rfl, by kernel_rfl, by kernel_rfl⟩
abbrev e247 : TE := ⟨.func #[3] #[198] false, 1, 8, .nilFunc⟩
theorem ok247 : e247.Ok Tryd.prog 247 := ⟨Tryd.underlying247, Tryd.t247, by kernel_rfl, by kernel_rfl, by kernel_rfl, by kernel_rfl⟩
abbrev e248 : TE := ⟨.func #[] #[226] false, 1, 8, .nilFunc⟩
theorem ok248 : e248.Ok Tryd.prog 248 := ⟨Tryd.underlying248, Tryd.t248, by kernel_rfl, by kernel_rfl, by kernel_rfl, by kernel_rfl⟩
abbrev e249 : TE := ⟨.func #[22, 3, 250, 40] #[3] false, 1, 8, .nilFunc⟩
theorem ok249 : e249.Ok Tryd.prog 249 := ⟨Tryd.underlying249, Tryd.t249, by kernel_rfl, by kernel_rfl, by kernel_rfl, by kernel_rfl⟩
abbrev e250 : TE := ⟨.pointer 3, 1, 8, .pointer none⟩
theorem ok250 : e250.Ok Tryd.prog 250 := ⟨Tryd.underlying250, Tryd.t250, by kernel_rfl, by kernel_rfl, by kernel_rfl, by kernel_rfl⟩
abbrev e251 : TE := ⟨.func #[22, 3, 3, 3, 250, 40] #[3] false, 1, 8, .nilFunc⟩
theorem ok251 : e251.Ok Tryd.prog 251 := ⟨Tryd.underlying251, Tryd.t251, by kernel_rfl, by kernel_rfl, by kernel_rfl, by kernel_rfl⟩
abbrev e252 : TE := ⟨.func #[4] #[3] false, 1, 8, .nilFunc⟩
theorem ok252 : e252.Ok Tryd.prog 252 := ⟨Tryd.underlying252, Tryd.t252, by kernel_rfl, by kernel_rfl, by kernel_rfl, by kernel_rfl⟩
abbrev e253 : TE := ⟨.array 20 226, 20, 160, .agg (List.replicate 20 (Value.int .u64 0)).toArray⟩
theorem ok253 : e253.Ok Tryd.prog 253 := ⟨Tryd.underlying253, Tryd.t253, by kernel_rfl, by kernel_rfl, by kernel_rfl, by kernel_rfl⟩
abbrev e254 : TE := ⟨.array 65 5, 65, 65, .agg (List.replicate 65 (Value.int .u8 0)).toArray⟩
theorem ok254 : e254.Ok Tryd.prog 254 := ⟨Tryd.underlying254, Tryd.t254, by kernel_rfl, by kernel_rfl, by kernel_rfl, by kernel_rfl⟩
abbrev e255 : TE := ⟨.pointer 246, 1, 8, .pointer none⟩
theorem ok255 : e255.Ok Tryd.prog 255 := ⟨Tryd.underlying255, Tryd.t255, by kernel_rfl, by kernel_rfl, by kernel_rfl, by kernel_rfl⟩
abbrev e256 : TE := ⟨.func #[22, 3, 3, 250, 40] #[3, 3] false, 1, 8, .nilFunc⟩
theorem ok256 : e256.Ok Tryd.prog 256 := ⟨Tryd.underlying256, Tryd.t256, by kernel_rfl, by kernel_rfl, by kernel_rfl, by kernel_rfl⟩
abbrev e257 : TE := ⟨.array 32 5, 32, 32, .agg (List.replicate 32 (Value.int .u8 0)).toArray⟩
theorem ok257 : e257.Ok Tryd.prog 257 := ⟨Tryd.underlying257, Tryd.t257, by kernel_rfl, by kernel_rfl, by kernel_rfl, by kernel_rfl⟩
abbrev e258 : TE := ⟨.array 64 5, 64, 64, .agg (List.replicate 64 (Value.int .u8 0)).toArray⟩
theorem ok258 : e258.Ok Tryd.prog 258 := ⟨Tryd.underlying258, Tryd.t258, by kernel_rfl, by kernel_rfl, by kernel_rfl, by kernel_rfl⟩
abbrev e259 : TE := ⟨.func #[] #[9] false, 1, 8, .nilFunc⟩
theorem ok259 : e259.Ok Tryd.prog 259 := ⟨Tryd.underlying259, Tryd.t259, by kernel_rfl, by kernel_rfl, by kernel_rfl, by kernel_rfl⟩
abbrev e260 : TE := ⟨.struct #[{ name := "_interface", type := 17, offset := 0, embedded := false, tag := "", pkgPath := "runtime", byteOffset := 0 }, { name := "concrete", type := 17, offset := 1, embedded := false, tag := "", pkgPath := "runtime", byteOffset := 8 }, { name := "asserted", type := 17, offset := 2, embedded := false, tag := "", pkgPath := "runtime", byteOffset := 16 }, { name := "missingMethod", type := 9, offset := 3, embedded := false, tag := "", pkgPath := "runtime", byteOffset := 24 }], 4, 40, .agg #[.pointer none, .pointer none, .pointer none, .string ByteArray.empty]⟩
theorem ok260 : e260.Ok Tryd.prog 260 := ⟨Tryd.underlying260, Tryd.t260, by kernel_rfl, by kernel_rfl, by kernel_rfl, by kernel_rfl⟩
abbrev e261 : TE := ⟨.struct #[{ name := "_interface", type := 17, offset := 0, embedded := false, tag := "", pkgPath := "runtime", byteOffset := 0 }, { name := "concrete", type := 17, offset := 1, embedded := false, tag := "", pkgPath := "runtime", byteOffset := 8 }, { name := "asserted", type := 17, offset := 2, embedded := false, tag := "", pkgPath := "runtime", byteOffset := 16 }, { name := "missingMethod", type := 9, offset := 3, embedded := false, tag := "", pkgPath := "runtime", byteOffset := 24 }], 4, 40, .agg #[.pointer none, .pointer none, .pointer none, .string ByteArray.empty]⟩
theorem ok261 : e261.Ok Tryd.prog 261 := ⟨Tryd.underlying261, Tryd.t261, by kernel_rfl, by kernel_rfl, by kernel_rfl, by kernel_rfl⟩
abbrev e262 : TE := ⟨.array 0 16, 0, 0, .agg #[]⟩
theorem ok262 : e262.Ok Tryd.prog 262 := ⟨Tryd.underlying262, Tryd.t262, by kernel_rfl, by kernel_rfl, by kernel_rfl, by kernel_rfl⟩
abbrev e263 : TE := ⟨.struct #[{ name := "_", type := 262, offset := 0, embedded := false, tag := "", pkgPath := "runtime", byteOffset := 0 }], 0, 0, .agg #[]⟩
theorem ok263 : e263.Ok Tryd.prog 263 := ⟨Tryd.underlying263, Tryd.t263, by kernel_rfl, by kernel_rfl, by kernel_rfl, by kernel_rfl⟩
abbrev e264 : TE := ⟨.struct #[{ name := "_", type := 262, offset := 0, embedded := false, tag := "", pkgPath := "runtime", byteOffset := 0 }], 0, 0, .agg #[]⟩
theorem ok264 : e264.Ok Tryd.prog 264 := ⟨Tryd.underlying264, Tryd.t264, by kernel_rfl, by kernel_rfl, by kernel_rfl, by kernel_rfl⟩
abbrev e265 : TE := ⟨.func #[] #[17] false, 1, 8, .nilFunc⟩
theorem ok265 : e265.Ok Tryd.prog 265 := ⟨Tryd.underlying265, Tryd.t265, by kernel_rfl, by kernel_rfl, by kernel_rfl, by kernel_rfl⟩
abbrev e266 : TE := ⟨.int .u8, 1, 1, .int .u8 0⟩
theorem ok266 : e266.Ok Tryd.prog 266 := ⟨Tryd.underlying266, Tryd.t266, by kernel_rfl, by kernel_rfl, by kernel_rfl, by kernel_rfl⟩
abbrev e267 : TE := ⟨.func #[199, 199] #[4] false, 1, 8, .nilFunc⟩
theorem ok267 : e267.Ok Tryd.prog 267 := ⟨Tryd.underlying267, Tryd.t267, by kernel_rfl, by kernel_rfl, by kernel_rfl, by kernel_rfl⟩
abbrev e268 : TE := ⟨.pointer 5, 1, 8, .pointer none⟩
theorem ok268 : e268.Ok Tryd.prog 268 := ⟨Tryd.underlying268, Tryd.t268, by kernel_rfl, by kernel_rfl, by kernel_rfl, by kernel_rfl⟩
abbrev e269 : TE := ⟨.int .i32, 1, 4, .int .i32 0⟩
theorem ok269 : e269.Ok Tryd.prog 269 := ⟨Tryd.underlying269, Tryd.t269, by kernel_rfl, by kernel_rfl, by kernel_rfl, by kernel_rfl⟩
abbrev e270 : TE := ⟨.int .i32, 1, 4, .int .i32 0⟩
theorem ok270 : e270.Ok Tryd.prog 270 := ⟨Tryd.underlying270, Tryd.t270, by kernel_rfl, by kernel_rfl, by kernel_rfl, by kernel_rfl⟩
abbrev e271 : TE := ⟨.struct #[{ name := "Size_", type := 12, offset := 0, embedded := false, tag := "", pkgPath := "", byteOffset := 0 }, { name := "PtrBytes", type := 12, offset := 1, embedded := false, tag := "", pkgPath := "", byteOffset := 8 }, { name := "Hash", type := 212, offset := 2, embedded := false, tag := "", pkgPath := "", byteOffset := 16 }, { name := "TFlag", type := 266, offset := 3, embedded := false, tag := "", pkgPath := "", byteOffset := 20 }, { name := "Align_", type := 5, offset := 4, embedded := false, tag := "", pkgPath := "", byteOffset := 21 }, { name := "FieldAlign_", type := 5, offset := 5, embedded := false, tag := "", pkgPath := "", byteOffset := 22 }, { name := "Kind_", type := 207, offset := 6, embedded := false, tag := "", pkgPath := "", byteOffset := 23 }, { name := "Equal", type := 267, offset := 7, embedded := false, tag := "", pkgPath := "", byteOffset := 24 }, { name := "GCData", type := 268, offset := 8, embedded := false, tag := "", pkgPath := "", byteOffset := 32 }, { name := "Str", type := 269, offset := 9, embedded := false, tag := "", pkgPath := "", byteOffset := 40 }, { name := "PtrToThis", type := 270, offset := 10, embedded := false, tag := "", pkgPath := "", byteOffset := 44 }], 11, 48, .agg ([Value.int .u64 0, Value.int .u64 0, Value.int .u32 0] ++ List.replicate 4 (Value.int .u8 0) ++ [Value.nilFunc, Value.pointer none, Value.int .i32 0, Value.int .i32 0]).toArray⟩
theorem ok271 : e271.Ok Tryd.prog 271 := ⟨Tryd.underlying271, Tryd.t271, by kernel_rfl, by kernel_rfl, by kernel_rfl, by kernel_rfl⟩
abbrev e272 : TE := ⟨.struct #[{ name := "Size_", type := 12, offset := 0, embedded := false, tag := "", pkgPath := "", byteOffset := 0 }, { name := "PtrBytes", type := 12, offset := 1, embedded := false, tag := "", pkgPath := "", byteOffset := 8 }, { name := "Hash", type := 212, offset := 2, embedded := false, tag := "", pkgPath := "", byteOffset := 16 }, { name := "TFlag", type := 266, offset := 3, embedded := false, tag := "", pkgPath := "", byteOffset := 20 }, { name := "Align_", type := 5, offset := 4, embedded := false, tag := "", pkgPath := "", byteOffset := 21 }, { name := "FieldAlign_", type := 5, offset := 5, embedded := false, tag := "", pkgPath := "", byteOffset := 22 }, { name := "Kind_", type := 207, offset := 6, embedded := false, tag := "", pkgPath := "", byteOffset := 23 }, { name := "Equal", type := 267, offset := 7, embedded := false, tag := "", pkgPath := "", byteOffset := 24 }, { name := "GCData", type := 268, offset := 8, embedded := false, tag := "", pkgPath := "", byteOffset := 32 }, { name := "Str", type := 269, offset := 9, embedded := false, tag := "", pkgPath := "", byteOffset := 40 }, { name := "PtrToThis", type := 270, offset := 10, embedded := false, tag := "", pkgPath := "", byteOffset := 44 }], 11, 48, .agg ([Value.int .u64 0, Value.int .u64 0, Value.int .u32 0] ++ List.replicate 4 (Value.int .u8 0) ++ [Value.nilFunc, Value.pointer none, Value.int .i32 0, Value.int .i32 0]).toArray⟩
theorem ok272 : e272.Ok Tryd.prog 272 := ⟨Tryd.underlying272, Tryd.t272, by kernel_rfl, by kernel_rfl, by kernel_rfl, by kernel_rfl⟩
abbrev e273 : TE := ⟨.func #[] #[12] false, 1, 8, .nilFunc⟩
theorem ok273 : e273.Ok Tryd.prog 273 := ⟨Tryd.underlying273, Tryd.t273, by kernel_rfl, by kernel_rfl, by kernel_rfl, by kernel_rfl⟩
abbrev e274 : TE := ⟨.func #[] #[277] false, 1, 8, .nilFunc⟩
theorem ok274 : e274.Ok Tryd.prog 274 := ⟨Tryd.underlying274, Tryd.t274, by kernel_rfl, by kernel_rfl, by kernel_rfl, by kernel_rfl⟩
abbrev e275 : TE := ⟨.struct #[{ name := "Method", type := 9, offset := 0, embedded := false, tag := "", pkgPath := "", byteOffset := 0 }, { name := "Kind", type := 207, offset := 1, embedded := false, tag := "", pkgPath := "", byteOffset := 16 }], 2, 24, .agg #[.string ByteArray.empty, .int .u8 0]⟩
theorem ok275 : e275.Ok Tryd.prog 275 := ⟨Tryd.underlying275, Tryd.t275, by kernel_rfl, by kernel_rfl, by kernel_rfl, by kernel_rfl⟩
abbrev e276 : TE := ⟨.struct #[{ name := "Method", type := 9, offset := 0, embedded := false, tag := "", pkgPath := "", byteOffset := 0 }, { name := "Kind", type := 207, offset := 1, embedded := false, tag := "", pkgPath := "", byteOffset := 16 }], 2, 24, .agg #[.string ByteArray.empty, .int .u8 0]⟩
theorem ok276 : e276.Ok Tryd.prog 276 := ⟨Tryd.underlying276, Tryd.t276, by kernel_rfl, by kernel_rfl, by kernel_rfl, by kernel_rfl⟩
abbrev e277 : TE := ⟨.pointer 281, 1, 8, .pointer none⟩
theorem ok277 : e277.Ok Tryd.prog 277 := ⟨Tryd.underlying277, Tryd.t277, by kernel_rfl, by kernel_rfl, by kernel_rfl, by kernel_rfl⟩
abbrev e278 : TE := ⟨.func #[] #[282] false, 1, 8, .nilFunc⟩
theorem ok278 : e278.Ok Tryd.prog 278 := ⟨Tryd.underlying278, Tryd.t278, by kernel_rfl, by kernel_rfl, by kernel_rfl, by kernel_rfl⟩
abbrev e279 : TE := ⟨.int .u16, 1, 2, .int .u16 0⟩
theorem ok279 : e279.Ok Tryd.prog 279 := ⟨Tryd.underlying279, Tryd.t279, by kernel_rfl, by kernel_rfl, by kernel_rfl, by kernel_rfl⟩
abbrev e280 : TE := ⟨.struct #[{ name := "PkgPath", type := 269, offset := 0, embedded := false, tag := "", pkgPath := "", byteOffset := 0 }, { name := "Mcount", type := 279, offset := 1, embedded := false, tag := "", pkgPath := "", byteOffset := 4 }, { name := "Xcount", type := 279, offset := 2, embedded := false, tag := "", pkgPath := "", byteOffset := 6 }, { name := "Moff", type := 212, offset := 3, embedded := false, tag := "", pkgPath := "", byteOffset := 8 }, { name := "_", type := 212, offset := 4, embedded := false, tag := "", pkgPath := "internal/abi", byteOffset := 12 }], 5, 16, .agg #[.int .i32 0, .int .u16 0, .int .u16 0, .int .u32 0, .int .u32 0]⟩
theorem ok280 : e280.Ok Tryd.prog 280 := ⟨Tryd.underlying280, Tryd.t280, by kernel_rfl, by kernel_rfl, by kernel_rfl, by kernel_rfl⟩
abbrev e281 : TE := ⟨.struct #[{ name := "PkgPath", type := 269, offset := 0, embedded := false, tag := "", pkgPath := "", byteOffset := 0 }, { name := "Mcount", type := 279, offset := 1, embedded := false, tag := "", pkgPath := "", byteOffset := 4 }, { name := "Xcount", type := 279, offset := 2, embedded := false, tag := "", pkgPath := "", byteOffset := 6 }, { name := "Moff", type := 212, offset := 3, embedded := false, tag := "", pkgPath := "", byteOffset := 8 }, { name := "_", type := 212, offset := 4, embedded := false, tag := "", pkgPath := "internal/abi", byteOffset := 12 }], 5, 16, .agg #[.int .i32 0, .int .u16 0, .int .u16 0, .int .u32 0, .int .u32 0]⟩
theorem ok281 : e281.Ok Tryd.prog 281 := ⟨Tryd.underlying281, Tryd.t281, by kernel_rfl, by kernel_rfl, by kernel_rfl, by kernel_rfl⟩
abbrev e282 : TE := ⟨.slice 285, 1, 24, .slice none 0 0⟩
theorem ok282 : e282.Ok Tryd.prog 282 := ⟨Tryd.underlying282, Tryd.t282, by kernel_rfl, by kernel_rfl, by kernel_rfl, by kernel_rfl⟩
abbrev e283 : TE := ⟨.int .i32, 1, 4, .int .i32 0⟩
theorem ok283 : e283.Ok Tryd.prog 283 := ⟨Tryd.underlying283, Tryd.t283, by kernel_rfl, by kernel_rfl, by kernel_rfl, by kernel_rfl⟩
abbrev e284 : TE := ⟨.struct #[{ name := "Name", type := 269, offset := 0, embedded := false, tag := "", pkgPath := "", byteOffset := 0 }, { name := "Mtyp", type := 270, offset := 1, embedded := false, tag := "", pkgPath := "", byteOffset := 4 }, { name := "Ifn", type := 283, offset := 2, embedded := false, tag := "", pkgPath := "", byteOffset := 8 }, { name := "Tfn", type := 283, offset := 3, embedded := false, tag := "", pkgPath := "", byteOffset := 12 }], 4, 16, .agg #[.int .i32 0, .int .i32 0, .int .i32 0, .int .i32 0]⟩
theorem ok284 : e284.Ok Tryd.prog 284 := ⟨Tryd.underlying284, Tryd.t284, by kernel_rfl, by kernel_rfl, by kernel_rfl, by kernel_rfl⟩
abbrev e285 : TE := ⟨.struct #[{ name := "Name", type := 269, offset := 0, embedded := false, tag := "", pkgPath := "", byteOffset := 0 }, { name := "Mtyp", type := 270, offset := 1, embedded := false, tag := "", pkgPath := "", byteOffset := 4 }, { name := "Ifn", type := 283, offset := 2, embedded := false, tag := "", pkgPath := "", byteOffset := 8 }, { name := "Tfn", type := 283, offset := 3, embedded := false, tag := "", pkgPath := "", byteOffset := 12 }], 4, 16, .agg #[.int .i32 0, .int .i32 0, .int .i32 0, .int .i32 0]⟩
theorem ok285 : e285.Ok Tryd.prog 285 := ⟨Tryd.underlying285, Tryd.t285, by kernel_rfl, by kernel_rfl, by kernel_rfl, by kernel_rfl⟩
abbrev e286 : TE := ⟨.pointer 26, 1, 8, .pointer none⟩
theorem ok286 : e286.Ok Tryd.prog 286 := ⟨Tryd.underlying286, Tryd.t286, by kernel_rfl, by kernel_rfl, by kernel_rfl, by kernel_rfl⟩
abbrev tree : Tree := (.node (.node (.node (.node (.node (.node (.node (.node (.node .leaf 0 e0 .leaf) 1 e1 .leaf) 2 e2 (.node .leaf 3 e3 .leaf)) 4 e4 (.node (.node .leaf 5 e5 .leaf) 6 e6 (.node .leaf 7 e7 .leaf))) 8 e8 (.node (.node (.node (.node .leaf 9 e9 .leaf) 10 e10 .leaf) 11 e11 (.node .leaf 12 e12 .leaf)) 13 e13 (.node (.node .leaf 14 e14 .leaf) 15 e15 (.node .leaf 16 e16 .leaf)))) 17 e17 (.node (.node (.node (.node (.node .leaf 18 e18 .leaf) 19 e19 .leaf) 20 e20 (.node .leaf 21 e21 .leaf)) 22 e22 (.node (.node .leaf 23 e23 .leaf) 24 e24 (.node .leaf 25 e25 .leaf))) 26 e26 (.node (.node (.node (.node .leaf 27 e27 .leaf) 28 e28 .leaf) 29 e29 (.node .leaf 30 e30 .leaf)) 31 e31 (.node (.node .leaf 32 e32 .leaf) 33 e33 (.node .leaf 34 e34 .leaf))))) 35 e35 (.node (.node (.node (.node (.node (.node .leaf 36 e36 .leaf) 37 e37 .leaf) 38 e38 (.node .leaf 39 e39 .leaf)) 40 e40 (.node (.node .leaf 41 e41 .leaf) 42 e42 (.node .leaf 43 e43 .leaf))) 44 e44 (.node (.node (.node (.node .leaf 45 e45 .leaf) 46 e46 .leaf) 47 e47 (.node .leaf 48 e48 .leaf)) 49 e49 (.node (.node .leaf 50 e50 .leaf) 51 e51 (.node .leaf 52 e52 .leaf)))) 53 e53 (.node (.node (.node (.node (.node .leaf 54 e54 .leaf) 55 e55 .leaf) 56 e56 (.node .leaf 57 e57 .leaf)) 58 e58 (.node (.node .leaf 59 e59 .leaf) 60 e60 (.node .leaf 61 e61 .leaf))) 62 e62 (.node (.node (.node (.node .leaf 63 e63 .leaf) 64 e64 .leaf) 65 e65 (.node .leaf 66 e66 .leaf)) 67 e67 (.node (.node .leaf 68 e68 .leaf) 69 e69 (.node .leaf 70 e70 .leaf)))))) 71 e71 (.node (.node (.node (.node (.node (.node (.node .leaf 72 e72 .leaf) 73 e73 .leaf) 74 e74 (.node .leaf 75 e75 .leaf)) 76 e76 (.node (.node .leaf 77 e77 .leaf) 78 e78 (.node .leaf 79 e79 .leaf))) 80 e80 (.node (.node (.node (.node .leaf 81 e81 .leaf) 82 e82 .leaf) 83 e83 (.node .leaf 84 e84 .leaf)) 85 e85 (.node (.node .leaf 86 e86 .leaf) 87 e87 (.node .leaf 88 e88 .leaf)))) 89 e89 (.node (.node (.node (.node (.node .leaf 90 e90 .leaf) 91 e91 .leaf) 92 e92 (.node .leaf 93 e93 .leaf)) 94 e94 (.node (.node .leaf 95 e95 .leaf) 96 e96 (.node .leaf 97 e97 .leaf))) 98 e98 (.node (.node (.node (.node .leaf 99 e99 .leaf) 100 e100 .leaf) 101 e101 (.node .leaf 102 e102 .leaf)) 103 e103 (.node (.node .leaf 104 e104 .leaf) 105 e105 (.node .leaf 106 e106 .leaf))))) 107 e107 (.node (.node (.node (.node (.node (.node .leaf 108 e108 .leaf) 109 e109 .leaf) 110 e110 (.node .leaf 111 e111 .leaf)) 112 e112 (.node (.node .leaf 113 e113 .leaf) 114 e114 (.node .leaf 115 e115 .leaf))) 116 e116 (.node (.node (.node (.node .leaf 117 e117 .leaf) 118 e118 .leaf) 119 e119 (.node .leaf 120 e120 .leaf)) 121 e121 (.node (.node .leaf 122 e122 .leaf) 123 e123 (.node .leaf 124 e124 .leaf)))) 125 e125 (.node (.node (.node (.node (.node .leaf 126 e126 .leaf) 127 e127 .leaf) 128 e128 (.node .leaf 129 e129 .leaf)) 130 e130 (.node (.node .leaf 131 e131 .leaf) 132 e132 (.node .leaf 133 e133 .leaf))) 134 e134 (.node (.node (.node (.node .leaf 135 e135 .leaf) 136 e136 .leaf) 137 e137 (.node .leaf 138 e138 .leaf)) 139 e139 (.node (.node .leaf 140 e140 .leaf) 141 e141 (.node .leaf 142 e142 .leaf))))))) 143 e143 (.node (.node (.node (.node (.node (.node (.node (.node .leaf 144 e144 .leaf) 145 e145 .leaf) 146 e146 (.node .leaf 147 e147 .leaf)) 148 e148 (.node (.node .leaf 149 e149 .leaf) 150 e150 (.node .leaf 151 e151 .leaf))) 152 e152 (.node (.node (.node (.node .leaf 153 e153 .leaf) 154 e154 .leaf) 155 e155 (.node .leaf 156 e156 .leaf)) 157 e157 (.node (.node .leaf 158 e158 .leaf) 159 e159 (.node .leaf 160 e160 .leaf)))) 161 e161 (.node (.node (.node (.node (.node .leaf 162 e162 .leaf) 163 e163 .leaf) 164 e164 (.node .leaf 165 e165 .leaf)) 166 e166 (.node (.node .leaf 167 e167 .leaf) 168 e168 (.node .leaf 169 e169 .leaf))) 170 e170 (.node (.node (.node (.node .leaf 171 e171 .leaf) 172 e172 .leaf) 173 e173 (.node .leaf 174 e174 .leaf)) 175 e175 (.node (.node .leaf 176 e176 .leaf) 177 e177 (.node .leaf 178 e178 .leaf))))) 179 e179 (.node (.node (.node (.node (.node (.node .leaf 180 e180 .leaf) 181 e181 .leaf) 182 e182 (.node .leaf 183 e183 .leaf)) 184 e184 (.node (.node .leaf 185 e185 .leaf) 186 e186 (.node .leaf 187 e187 .leaf))) 188 e188 (.node (.node (.node (.node .leaf 189 e189 .leaf) 190 e190 .leaf) 191 e191 (.node .leaf 192 e192 .leaf)) 193 e193 (.node (.node .leaf 194 e194 .leaf) 195 e195 (.node .leaf 196 e196 .leaf)))) 197 e197 (.node (.node (.node (.node (.node .leaf 198 e198 .leaf) 199 e199 .leaf) 200 e200 (.node .leaf 201 e201 .leaf)) 202 e202 (.node (.node .leaf 203 e203 .leaf) 204 e204 (.node .leaf 205 e205 .leaf))) 206 e206 (.node (.node (.node (.node .leaf 207 e207 .leaf) 208 e208 .leaf) 209 e209 (.node .leaf 210 e210 .leaf)) 211 e211 (.node (.node .leaf 212 e212 .leaf) 213 e213 (.node .leaf 214 e214 .leaf)))))) 215 e215 (.node (.node (.node (.node (.node (.node (.node .leaf 216 e216 .leaf) 217 e217 .leaf) 218 e218 (.node .leaf 219 e219 .leaf)) 220 e220 (.node (.node .leaf 221 e221 .leaf) 222 e222 (.node .leaf 223 e223 .leaf))) 224 e224 (.node (.node (.node (.node .leaf 225 e225 .leaf) 226 e226 .leaf) 227 e227 (.node .leaf 228 e228 .leaf)) 229 e229 (.node (.node .leaf 230 e230 .leaf) 231 e231 (.node .leaf 232 e232 .leaf)))) 233 e233 (.node (.node (.node (.node (.node .leaf 234 e234 .leaf) 235 e235 .leaf) 236 e236 (.node .leaf 237 e237 .leaf)) 238 e238 (.node (.node .leaf 239 e239 .leaf) 240 e240 (.node .leaf 241 e241 .leaf))) 242 e242 (.node (.node (.node (.node .leaf 243 e243 .leaf) 244 e244 .leaf) 245 e245 (.node .leaf 246 e246 .leaf)) 247 e247 (.node (.node .leaf 248 e248 .leaf) 249 e249 (.node .leaf 250 e250 .leaf))))) 251 e251 (.node (.node (.node (.node (.node (.node .leaf 252 e252 .leaf) 253 e253 .leaf) 254 e254 (.node .leaf 255 e255 .leaf)) 256 e256 (.node (.node .leaf 257 e257 .leaf) 258 e258 (.node .leaf 259 e259 .leaf))) 260 e260 (.node (.node (.node (.node .leaf 261 e261 .leaf) 262 e262 .leaf) 263 e263 (.node .leaf 264 e264 .leaf)) 265 e265 (.node (.node .leaf 266 e266 .leaf) 267 e267 (.node .leaf 268 e268 .leaf)))) 269 e269 (.node (.node (.node (.node (.node .leaf 270 e270 .leaf) 271 e271 .leaf) 272 e272 (.node .leaf 273 e273 .leaf)) 274 e274 (.node (.node .leaf 275 e275 .leaf) 276 e276 (.node .leaf 277 e277 .leaf))) 278 e278 (.node (.node (.node (.node .leaf 279 e279 .leaf) 280 e280 .leaf) 281 e281 (.node .leaf 282 e282 .leaf)) 283 e283 (.node (.node .leaf 284 e284 .leaf) 285 e285 (.node .leaf 286 e286 .leaf))))))))
theorem treeOk : tree.All Tryd.prog := ⟨⟨⟨⟨⟨⟨⟨⟨⟨trivial, ok0, trivial⟩, ok1, trivial⟩, ok2, ⟨trivial, ok3, trivial⟩⟩, ok4, ⟨⟨trivial, ok5, trivial⟩, ok6, ⟨trivial, ok7, trivial⟩⟩⟩, ok8, ⟨⟨⟨⟨trivial, ok9, trivial⟩, ok10, trivial⟩, ok11, ⟨trivial, ok12, trivial⟩⟩, ok13, ⟨⟨trivial, ok14, trivial⟩, ok15, ⟨trivial, ok16, trivial⟩⟩⟩⟩, ok17, ⟨⟨⟨⟨⟨trivial, ok18, trivial⟩, ok19, trivial⟩, ok20, ⟨trivial, ok21, trivial⟩⟩, ok22, ⟨⟨trivial, ok23, trivial⟩, ok24, ⟨trivial, ok25, trivial⟩⟩⟩, ok26, ⟨⟨⟨⟨trivial, ok27, trivial⟩, ok28, trivial⟩, ok29, ⟨trivial, ok30, trivial⟩⟩, ok31, ⟨⟨trivial, ok32, trivial⟩, ok33, ⟨trivial, ok34, trivial⟩⟩⟩⟩⟩, ok35, ⟨⟨⟨⟨⟨⟨trivial, ok36, trivial⟩, ok37, trivial⟩, ok38, ⟨trivial, ok39, trivial⟩⟩, ok40, ⟨⟨trivial, ok41, trivial⟩, ok42, ⟨trivial, ok43, trivial⟩⟩⟩, ok44, ⟨⟨⟨⟨trivial, ok45, trivial⟩, ok46, trivial⟩, ok47, ⟨trivial, ok48, trivial⟩⟩, ok49, ⟨⟨trivial, ok50, trivial⟩, ok51, ⟨trivial, ok52, trivial⟩⟩⟩⟩, ok53, ⟨⟨⟨⟨⟨trivial, ok54, trivial⟩, ok55, trivial⟩, ok56, ⟨trivial, ok57, trivial⟩⟩, ok58, ⟨⟨trivial, ok59, trivial⟩, ok60, ⟨trivial, ok61, trivial⟩⟩⟩, ok62, ⟨⟨⟨⟨trivial, ok63, trivial⟩, ok64, trivial⟩, ok65, ⟨trivial, ok66, trivial⟩⟩, ok67, ⟨⟨trivial, ok68, trivial⟩, ok69, ⟨trivial, ok70, trivial⟩⟩⟩⟩⟩⟩, ok71, ⟨⟨⟨⟨⟨⟨⟨trivial, ok72, trivial⟩, ok73, trivial⟩, ok74, ⟨trivial, ok75, trivial⟩⟩, ok76, ⟨⟨trivial, ok77, trivial⟩, ok78, ⟨trivial, ok79, trivial⟩⟩⟩, ok80, ⟨⟨⟨⟨trivial, ok81, trivial⟩, ok82, trivial⟩, ok83, ⟨trivial, ok84, trivial⟩⟩, ok85, ⟨⟨trivial, ok86, trivial⟩, ok87, ⟨trivial, ok88, trivial⟩⟩⟩⟩, ok89, ⟨⟨⟨⟨⟨trivial, ok90, trivial⟩, ok91, trivial⟩, ok92, ⟨trivial, ok93, trivial⟩⟩, ok94, ⟨⟨trivial, ok95, trivial⟩, ok96, ⟨trivial, ok97, trivial⟩⟩⟩, ok98, ⟨⟨⟨⟨trivial, ok99, trivial⟩, ok100, trivial⟩, ok101, ⟨trivial, ok102, trivial⟩⟩, ok103, ⟨⟨trivial, ok104, trivial⟩, ok105, ⟨trivial, ok106, trivial⟩⟩⟩⟩⟩, ok107, ⟨⟨⟨⟨⟨⟨trivial, ok108, trivial⟩, ok109, trivial⟩, ok110, ⟨trivial, ok111, trivial⟩⟩, ok112, ⟨⟨trivial, ok113, trivial⟩, ok114, ⟨trivial, ok115, trivial⟩⟩⟩, ok116, ⟨⟨⟨⟨trivial, ok117, trivial⟩, ok118, trivial⟩, ok119, ⟨trivial, ok120, trivial⟩⟩, ok121, ⟨⟨trivial, ok122, trivial⟩, ok123, ⟨trivial, ok124, trivial⟩⟩⟩⟩, ok125, ⟨⟨⟨⟨⟨trivial, ok126, trivial⟩, ok127, trivial⟩, ok128, ⟨trivial, ok129, trivial⟩⟩, ok130, ⟨⟨trivial, ok131, trivial⟩, ok132, ⟨trivial, ok133, trivial⟩⟩⟩, ok134, ⟨⟨⟨⟨trivial, ok135, trivial⟩, ok136, trivial⟩, ok137, ⟨trivial, ok138, trivial⟩⟩, ok139, ⟨⟨trivial, ok140, trivial⟩, ok141, ⟨trivial, ok142, trivial⟩⟩⟩⟩⟩⟩⟩, ok143, ⟨⟨⟨⟨⟨⟨⟨⟨trivial, ok144, trivial⟩, ok145, trivial⟩, ok146, ⟨trivial, ok147, trivial⟩⟩, ok148, ⟨⟨trivial, ok149, trivial⟩, ok150, ⟨trivial, ok151, trivial⟩⟩⟩, ok152, ⟨⟨⟨⟨trivial, ok153, trivial⟩, ok154, trivial⟩, ok155, ⟨trivial, ok156, trivial⟩⟩, ok157, ⟨⟨trivial, ok158, trivial⟩, ok159, ⟨trivial, ok160, trivial⟩⟩⟩⟩, ok161, ⟨⟨⟨⟨⟨trivial, ok162, trivial⟩, ok163, trivial⟩, ok164, ⟨trivial, ok165, trivial⟩⟩, ok166, ⟨⟨trivial, ok167, trivial⟩, ok168, ⟨trivial, ok169, trivial⟩⟩⟩, ok170, ⟨⟨⟨⟨trivial, ok171, trivial⟩, ok172, trivial⟩, ok173, ⟨trivial, ok174, trivial⟩⟩, ok175, ⟨⟨trivial, ok176, trivial⟩, ok177, ⟨trivial, ok178, trivial⟩⟩⟩⟩⟩, ok179, ⟨⟨⟨⟨⟨⟨trivial, ok180, trivial⟩, ok181, trivial⟩, ok182, ⟨trivial, ok183, trivial⟩⟩, ok184, ⟨⟨trivial, ok185, trivial⟩, ok186, ⟨trivial, ok187, trivial⟩⟩⟩, ok188, ⟨⟨⟨⟨trivial, ok189, trivial⟩, ok190, trivial⟩, ok191, ⟨trivial, ok192, trivial⟩⟩, ok193, ⟨⟨trivial, ok194, trivial⟩, ok195, ⟨trivial, ok196, trivial⟩⟩⟩⟩, ok197, ⟨⟨⟨⟨⟨trivial, ok198, trivial⟩, ok199, trivial⟩, ok200, ⟨trivial, ok201, trivial⟩⟩, ok202, ⟨⟨trivial, ok203, trivial⟩, ok204, ⟨trivial, ok205, trivial⟩⟩⟩, ok206, ⟨⟨⟨⟨trivial, ok207, trivial⟩, ok208, trivial⟩, ok209, ⟨trivial, ok210, trivial⟩⟩, ok211, ⟨⟨trivial, ok212, trivial⟩, ok213, ⟨trivial, ok214, trivial⟩⟩⟩⟩⟩⟩, ok215, ⟨⟨⟨⟨⟨⟨⟨trivial, ok216, trivial⟩, ok217, trivial⟩, ok218, ⟨trivial, ok219, trivial⟩⟩, ok220, ⟨⟨trivial, ok221, trivial⟩, ok222, ⟨trivial, ok223, trivial⟩⟩⟩, ok224, ⟨⟨⟨⟨trivial, ok225, trivial⟩, ok226, trivial⟩, ok227, ⟨trivial, ok228, trivial⟩⟩, ok229, ⟨⟨trivial, ok230, trivial⟩, ok231, ⟨trivial, ok232, trivial⟩⟩⟩⟩, ok233, ⟨⟨⟨⟨⟨trivial, ok234, trivial⟩, ok235, trivial⟩, ok236, ⟨trivial, ok237, trivial⟩⟩, ok238, ⟨⟨trivial, ok239, trivial⟩, ok240, ⟨trivial, ok241, trivial⟩⟩⟩, ok242, ⟨⟨⟨⟨trivial, ok243, trivial⟩, ok244, trivial⟩, ok245, ⟨trivial, ok246, trivial⟩⟩, ok247, ⟨⟨trivial, ok248, trivial⟩, ok249, ⟨trivial, ok250, trivial⟩⟩⟩⟩⟩, ok251, ⟨⟨⟨⟨⟨⟨trivial, ok252, trivial⟩, ok253, trivial⟩, ok254, ⟨trivial, ok255, trivial⟩⟩, ok256, ⟨⟨trivial, ok257, trivial⟩, ok258, ⟨trivial, ok259, trivial⟩⟩⟩, ok260, ⟨⟨⟨⟨trivial, ok261, trivial⟩, ok262, trivial⟩, ok263, ⟨trivial, ok264, trivial⟩⟩, ok265, ⟨⟨trivial, ok266, trivial⟩, ok267, ⟨trivial, ok268, trivial⟩⟩⟩⟩, ok269, ⟨⟨⟨⟨⟨trivial, ok270, trivial⟩, ok271, trivial⟩, ok272, ⟨trivial, ok273, trivial⟩⟩, ok274, ⟨⟨trivial, ok275, trivial⟩, ok276, ⟨trivial, ok277, trivial⟩⟩⟩, ok278, ⟨⟨⟨⟨trivial, ok279, trivial⟩, ok280, trivial⟩, ok281, ⟨trivial, ok282, trivial⟩⟩, ok283, ⟨⟨trivial, ok284, trivial⟩, ok285, ⟨trivial, ok286, trivial⟩⟩⟩⟩⟩⟩⟩⟩
instance tabs : Tabs Tryd.prog := ⟨tree.find, fun t e h => treeOk.find t e h⟩
end Go.Proofs.Tryd
