/- Facts on the types and functions that the walks name. -/
import Derived.Test.YtpaecijilnfkhaaDoorProg
import Derived.Test.YtpaecijilnfkhaaDoorEng3
import Derived.Test.YtpaecijilnfkhaaDoorEng4
import Derived.KernelRfl
namespace Go.Proofs.YtpaecijilnfkhaaDoor
open Go Go.Eng
theorem sl_22 : tSl Tryd.prog 22 5 1 = true := by kernel_rfl
theorem ap_22 : AppTy Tryd.prog 22 5 1 1 := app_mk Tryd.underlying22 (by kernel_rfl) (by decide)
theorem z_5 : tZ Tryd.prog 5 [.int .u8 0] := tZ_mk (by kernel_rfl)
theorem fo_137_0 : tFo Tryd.prog 137 0 0 = true := by kernel_rfl
theorem fz_137_0 : tFz Tryd.prog 137 0 1 = true := by kernel_rfl
theorem z_137 : tZ Tryd.prog 137 [.slice none 0 0, .int .i64 0, .int .i64 0] := tZ_mk (by kernel_rfl)
theorem sc_22 : tSc Tryd.prog 22 = true := by kernel_rfl
theorem pt_111 : tPt Tryd.prog 111 = true := by kernel_rfl
theorem fo_137_2 : tFo Tryd.prog 137 2 2 = true := by kernel_rfl
theorem sc_24 : tSc Tryd.prog 24 = true := by kernel_rfl
theorem fo_137_1 : tFo Tryd.prog 137 1 1 = true := by kernel_rfl
theorem sc_3 : tSc Tryd.prog 3 = true := by kernel_rfl
theorem mixed : Tryd.prog.follows .mixedOrders = true := by kernel_rfl
theorem gf_57 : GoFn Tryd.prog 57 := .mk _ Tryd.func57 (by kernel_rfl) (by kernel_rfl)
theorem sz_24 : tSz Tryd.prog 24 1 = true := by kernel_rfl
theorem gf_99 : GoFn Tryd.prog 99 := .mk _ Tryd.func99 (by kernel_rfl) (by kernel_rfl)
theorem sc_5 : tSc Tryd.prog 5 = true := by kernel_rfl
theorem ti_113 : tInt Tryd.prog 113 .u64 = true := by kernel_rfl
theorem gf_76 : GoFn Tryd.prog 76 := .mk _ Tryd.func76 (by kernel_rfl) (by kernel_rfl)
theorem gf_77 : GoFn Tryd.prog 77 := .mk _ Tryd.func77 (by kernel_rfl) (by kernel_rfl)
theorem gf_78 : GoFn Tryd.prog 78 := .mk _ Tryd.func78 (by kernel_rfl) (by kernel_rfl)
theorem sz_3 : tSz Tryd.prog 3 1 = true := by kernel_rfl
theorem z_59 : tZ Tryd.prog 59 [.int .i64 0, .int .i64 0, .int .i64 0, .int .i64 0, .slice none 0 0] := tZ_mk (by kernel_rfl)
theorem fo_59_2 : tFo Tryd.prog 59 2 2 = true := by kernel_rfl
theorem sc_57 : tSc Tryd.prog 57 = true := by kernel_rfl
theorem sz_59 : tSz Tryd.prog 59 5 = true := by kernel_rfl
theorem ag_59 : tAg Tryd.prog 59 5 = true := by kernel_rfl
theorem fo_59_3 : tFo Tryd.prog 59 3 3 = true := by kernel_rfl
theorem fo_59_0 : tFo Tryd.prog 59 0 0 = true := by kernel_rfl
theorem fo_59_1 : tFo Tryd.prog 59 1 1 = true := by kernel_rfl
theorem fo_59_4 : tFo Tryd.prog 59 4 4 = true := by kernel_rfl
theorem sc_37 : tSc Tryd.prog 37 = true := by kernel_rfl
theorem ti_3 : tInt Tryd.prog 3 .i64 = true := by kernel_rfl
theorem sl_37 : tSl Tryd.prog 37 3 1 = true := by kernel_rfl
theorem z_3 : tZ Tryd.prog 3 [.int .i64 0] := tZ_mk (by kernel_rfl)
theorem ap_37 : AppTy Tryd.prog 37 3 1 8 := app_mk Tryd.underlying37 (by kernel_rfl) (by decide)
theorem sz_37 : tSz Tryd.prog 37 1 = true := by kernel_rfl
theorem ti_57 : tInt Tryd.prog 57 .i64 = true := by kernel_rfl
theorem fz_59_2 : tFz Tryd.prog 59 2 1 = true := by kernel_rfl
theorem fz_59_1 : tFz Tryd.prog 59 1 1 = true := by kernel_rfl
theorem fz_59_0 : tFz Tryd.prog 59 0 1 = true := by kernel_rfl
theorem gf_55 : GoFn Tryd.prog 55 := .mk _ Tryd.func55 (by kernel_rfl) (by kernel_rfl)
theorem gf_56 : GoFn Tryd.prog 56 := .mk _ Tryd.func56 (by kernel_rfl) (by kernel_rfl)
theorem gf_58 : GoFn Tryd.prog 58 := .mk _ Tryd.func58 (by kernel_rfl) (by kernel_rfl)
theorem gf_59 : GoFn Tryd.prog 59 := .mk _ Tryd.func59 (by kernel_rfl) (by kernel_rfl)
theorem gf_30 : GoFn Tryd.prog 30 := .mk _ Tryd.func30 (by kernel_rfl) (by kernel_rfl)
theorem sl_65 : tSl Tryd.prog 65 59 5 = true := by kernel_rfl
theorem ap_65 : AppTy Tryd.prog 65 59 5 56 := app_mk Tryd.underlying65 (by kernel_rfl) (by decide)
theorem ar_stack : tAr Tryd.prog 128 127 32 5 = true := by kernel_rfl
theorem fo_130_1 : tFo Tryd.prog 130 1 160 = true := by kernel_rfl
theorem ag_127 : tAg Tryd.prog 127 5 = true := by kernel_rfl
theorem fo_130_0 : tFo Tryd.prog 130 0 0 = true := by kernel_rfl
theorem sz_127 : tSz Tryd.prog 127 5 = true := by kernel_rfl
theorem fo_130_5 : tFo Tryd.prog 130 5 164 = true := by kernel_rfl
theorem fo_130_4 : tFo Tryd.prog 130 4 163 = true := by kernel_rfl
theorem fo_130_3 : tFo Tryd.prog 130 3 162 = true := by kernel_rfl
theorem fo_127_0 : tFo Tryd.prog 127 0 0 = true := by kernel_rfl
theorem fz_127_0 : tFz Tryd.prog 127 0 1 = true := by kernel_rfl
theorem z_127 : tZ Tryd.prog 127 [.int .i64 0, .int .i64 0, .int .i64 0, .int .i64 0, .int .i64 0] := tZ_mk (by kernel_rfl)
theorem gf_91 : GoFn Tryd.prog 91 := .mk _ Tryd.func91 (by kernel_rfl) (by kernel_rfl)
theorem gf_90 : GoFn Tryd.prog 90 := .mk _ Tryd.func90 (by kernel_rfl) (by kernel_rfl)
theorem fo_130_2 : tFo Tryd.prog 130 2 161 = true := by kernel_rfl
theorem pt_149 : tPt Tryd.prog 149 = true := by kernel_rfl
theorem fo_127_3 : tFo Tryd.prog 127 3 3 = true := by kernel_rfl
theorem fo_127_4 : tFo Tryd.prog 127 4 4 = true := by kernel_rfl
theorem fz_127_4 : tFz Tryd.prog 127 4 1 = true := by kernel_rfl
theorem fo_127_1 : tFo Tryd.prog 127 1 1 = true := by kernel_rfl
theorem fo_127_2 : tFo Tryd.prog 127 2 2 = true := by kernel_rfl
theorem gf_89 : GoFn Tryd.prog 89 := .mk _ Tryd.func89 (by kernel_rfl) (by kernel_rfl)
theorem fo_130_7 : tFo Tryd.prog 130 7 166 = true := by kernel_rfl
theorem fo_130_8 : tFo Tryd.prog 130 8 167 = true := by kernel_rfl
theorem st_9 : tStr Tryd.prog 9 = true := by kernel_rfl
theorem gf_111 : GoFn Tryd.prog 111 := .mk _ Tryd.func111 (by kernel_rfl) (by kernel_rfl)
theorem gf_103 : GoFn Tryd.prog 103 := .mk _ Tryd.func103 (by kernel_rfl) (by kernel_rfl)
theorem gf_104 : GoFn Tryd.prog 104 := .mk _ Tryd.func104 (by kernel_rfl) (by kernel_rfl)
theorem fo_130_6 : tFo Tryd.prog 130 6 165 = true := by kernel_rfl
theorem sc_9 : tSc Tryd.prog 9 = true := by kernel_rfl
theorem gf_92 : GoFn Tryd.prog 92 := .mk _ Tryd.func92 (by kernel_rfl) (by kernel_rfl)
theorem sz_9 : tSz Tryd.prog 9 1 = true := by kernel_rfl
theorem z_31 : tZ Tryd.prog 31 [.int .i64 0, .int .i64 0, .int .i64 0, .int .i64 0, .int .i64 0] := tZ_mk (by kernel_rfl)
theorem ag_31 : tAg Tryd.prog 31 5 = true := by kernel_rfl
theorem gf_34 : GoFn Tryd.prog 34 := .mk _ Tryd.func34 (by kernel_rfl) (by kernel_rfl)
theorem sz_31 : tSz Tryd.prog 31 5 = true := by kernel_rfl
theorem fz_130_8 : tFz Tryd.prog 130 8 1 = true := by kernel_rfl
theorem fz_130_7 : tFz Tryd.prog 130 7 1 = true := by kernel_rfl
theorem fz_130_6 : tFz Tryd.prog 130 6 1 = true := by kernel_rfl
theorem z_130 : tZ Tryd.prog 130 [.int .i64 0, .int .i64 0, .int .i64 0, .int .i64 0, .int .i64 0, .int .i64 0, .int .i64 0, .int .i64 0, .int .i64 0, .int .i64 0, .int .i64 0, .int .i64 0, .int .i64 0, .int .i64 0, .int .i64 0, .int .i64 0, .int .i64 0, .int .i64 0, .int .i64 0, .int .i64 0, .int .i64 0, .int .i64 0, .int .i64 0, .int .i64 0, .int .i64 0, .int .i64 0, .int .i64 0, .int .i64 0, .int .i64 0, .int .i64 0, .int .i64 0, .int .i64 0, .int .i64 0, .int .i64 0, .int .i64 0, .int .i64 0, .int .i64 0, .int .i64 0, .int .i64 0, .int .i64 0, .int .i64 0, .int .i64 0, .int .i64 0, .int .i64 0, .int .i64 0, .int .i64 0, .int .i64 0, .int .i64 0, .int .i64 0, .int .i64 0, .int .i64 0, .int .i64 0, .int .i64 0, .int .i64 0, .int .i64 0, .int .i64 0, .int .i64 0, .int .i64 0, .int .i64 0, .int .i64 0, .int .i64 0, .int .i64 0, .int .i64 0, .int .i64 0, .int .i64 0, .int .i64 0, .int .i64 0, .int .i64 0, .int .i64 0, .int .i64 0, .int .i64 0, .int .i64 0, .int .i64 0, .int .i64 0, .int .i64 0, .int .i64 0, .int .i64 0, .int .i64 0, .int .i64 0, .int .i64 0, .int .i64 0, .int .i64 0, .int .i64 0, .int .i64 0, .int .i64 0, .int .i64 0, .int .i64 0, .int .i64 0, .int .i64 0, .int .i64 0, .int .i64 0, .int .i64 0, .int .i64 0, .int .i64 0, .int .i64 0, .int .i64 0, .int .i64 0, .int .i64 0, .int .i64 0, .int .i64 0, .int .i64 0, .int .i64 0, .int .i64 0, .int .i64 0, .int .i64 0, .int .i64 0, .int .i64 0, .int .i64 0, .int .i64 0, .int .i64 0, .int .i64 0, .int .i64 0, .int .i64 0, .int .i64 0, .int .i64 0, .int .i64 0, .int .i64 0, .int .i64 0, .int .i64 0, .int .i64 0, .int .i64 0, .int .i64 0, .int .i64 0, .int .i64 0, .int .i64 0, .int .i64 0, .int .i64 0, .int .i64 0, .int .i64 0, .int .i64 0, .int .i64 0, .int .i64 0, .int .i64 0, .int .i64 0, .int .i64 0, .int .i64 0, .int .i64 0, .int .i64 0, .int .i64 0, .int .i64 0, .int .i64 0, .int .i64 0, .int .i64 0, .int .i64 0, .int .i64 0, .int .i64 0, .int .i64 0, .int .i64 0, .int .i64 0, .int .i64 0, .int .i64 0, .int .i64 0, .int .i64 0, .int .i64 0, .int .i64 0, .int .i64 0, .int .i64 0, .int .i64 0, .int .i64 0, .int .i64 0, .int .i64 0, .int .i64 0, .int .i64 0, .int .i64 0, .int .i64 0, str [], .int .i64 0, .int .i64 0] := tZ_mk (by kernel_rfl)
theorem fo_31_1 : tFo Tryd.prog 31 1 1 = true := by kernel_rfl
theorem fz_31_1 : tFz Tryd.prog 31 1 1 = true := by kernel_rfl
theorem fo_31_0 : tFo Tryd.prog 31 0 0 = true := by kernel_rfl
theorem fz_31_0 : tFz Tryd.prog 31 0 1 = true := by kernel_rfl
theorem gf_66 : GoFn Tryd.prog 66 := .mk _ Tryd.func66 (by kernel_rfl) (by kernel_rfl)
theorem gf_67 : GoFn Tryd.prog 67 := .mk _ Tryd.func67 (by kernel_rfl) (by kernel_rfl)
theorem gf_68 : GoFn Tryd.prog 68 := .mk _ Tryd.func68 (by kernel_rfl) (by kernel_rfl)
theorem fo_31_4 : tFo Tryd.prog 31 4 4 = true := by kernel_rfl
theorem fo_31_2 : tFo Tryd.prog 31 2 2 = true := by kernel_rfl
theorem sz_57 : tSz Tryd.prog 57 1 = true := by kernel_rfl
theorem fo_31_3 : tFo Tryd.prog 31 3 3 = true := by kernel_rfl
theorem gf_44 : GoFn Tryd.prog 44 := .mk _ Tryd.func44 (by kernel_rfl) (by kernel_rfl)
theorem gf_46 : GoFn Tryd.prog 46 := .mk _ Tryd.func46 (by kernel_rfl) (by kernel_rfl)
theorem fo_93_1 : tFo Tryd.prog 93 1 1 = true := by kernel_rfl
theorem fz_93_1 : tFz Tryd.prog 93 1 1 = true := by kernel_rfl
theorem fo_93_0 : tFo Tryd.prog 93 0 0 = true := by kernel_rfl
theorem fz_93_0 : tFz Tryd.prog 93 0 1 = true := by kernel_rfl
theorem z_93 : tZ Tryd.prog 93 [.int .i64 0, .int .i64 0] := tZ_mk (by kernel_rfl)
theorem sl_44 : tSl Tryd.prog 44 93 2 = true := by kernel_rfl
theorem ap_44 : AppTy Tryd.prog 44 93 2 16 := app_mk Tryd.underlying44 (by kernel_rfl) (by decide)
theorem gf_12 : GoFn Tryd.prog 12 := .mk _ Tryd.func12 (by kernel_rfl) (by kernel_rfl)
theorem gf_15 : GoFn Tryd.prog 15 := .mk _ Tryd.func15 (by kernel_rfl) (by kernel_rfl)
theorem gf_18 : GoFn Tryd.prog 18 := .mk _ Tryd.func18 (by kernel_rfl) (by kernel_rfl)
theorem gf_20 : GoFn Tryd.prog 20 := .mk _ Tryd.func20 (by kernel_rfl) (by kernel_rfl)
theorem gf_22 : GoFn Tryd.prog 22 := .mk _ Tryd.func22 (by kernel_rfl) (by kernel_rfl)
theorem gf_11 : GoFn Tryd.prog 11 := .mk _ Tryd.func11 (by kernel_rfl) (by kernel_rfl)
theorem gf_13 : GoFn Tryd.prog 13 := .mk _ Tryd.func13 (by kernel_rfl) (by kernel_rfl)
theorem gf_60 : GoFn Tryd.prog 60 := .mk _ Tryd.func60 (by kernel_rfl) (by kernel_rfl)
theorem gf_32 : GoFn Tryd.prog 32 := .mk _ Tryd.func32 (by kernel_rfl) (by kernel_rfl)
theorem zu8 : (Tryd.prog.info? 5).map (fun i => i.zero) = some (some (.int .u8 0)) := by kernel_rfl
theorem gf_98 : GoFn Tryd.prog 98 := .mk _ Tryd.func98 (by kernel_rfl) (by kernel_rfl)
theorem ti_5 : tInt Tryd.prog 5 .u8 = true := by kernel_rfl
theorem gf_74 : GoFn Tryd.prog 74 := .mk _ Tryd.func74 (by kernel_rfl) (by kernel_rfl)
theorem fo_95_0 : tFo Tryd.prog 95 0 0 = true := by kernel_rfl
theorem fo_95_2 : tFo Tryd.prog 95 2 2 = true := by kernel_rfl
theorem fo_95_1 : tFo Tryd.prog 95 1 1 = true := by kernel_rfl
theorem fo_95_3 : tFo Tryd.prog 95 3 3 = true := by kernel_rfl
theorem sl_47 : tSl Tryd.prog 47 95 4 = true := by kernel_rfl
theorem ag_95 : tAg Tryd.prog 95 4 = true := by kernel_rfl
theorem z_95 : tZ Tryd.prog 95 [.int .i64 0, .int .i64 0, str [], .slice none 0 0] := tZ_mk (by kernel_rfl)
theorem sz_95 : tSz Tryd.prog 95 4 = true := by kernel_rfl
theorem gf_50 : GoFn Tryd.prog 50 := .mk _ Tryd.func50 (by kernel_rfl) (by kernel_rfl)
theorem gf_51 : GoFn Tryd.prog 51 := .mk _ Tryd.func51 (by kernel_rfl) (by kernel_rfl)
theorem zz_5 : (Tryd.prog.info? 5).map (fun i => i.zero) = some (some (.int .u8 0)) := by kernel_rfl
theorem by_22 : tByt Tryd.prog 22 5 = true := by kernel_rfl
theorem gf_75 : GoFn Tryd.prog 75 := .mk _ Tryd.func75 (by kernel_rfl) (by kernel_rfl)
theorem gf_52 : GoFn Tryd.prog 52 := .mk _ Tryd.func52 (by kernel_rfl) (by kernel_rfl)
theorem gf_53 : GoFn Tryd.prog 53 := .mk _ Tryd.func53 (by kernel_rfl) (by kernel_rfl)
theorem gf_54 : GoFn Tryd.prog 54 := .mk _ Tryd.func54 (by kernel_rfl) (by kernel_rfl)
theorem sl_76 : tSl Tryd.prog 76 9 1 = true := by kernel_rfl
theorem gf_61 : GoFn Tryd.prog 61 := .mk _ Tryd.func61 (by kernel_rfl) (by kernel_rfl)
theorem gf_33 : GoFn Tryd.prog 33 := .mk _ Tryd.func33 (by kernel_rfl) (by kernel_rfl)
theorem ap_47 : AppTy Tryd.prog 47 95 4 56 := app_mk Tryd.underlying47 (by kernel_rfl) (by decide)
theorem ar_164 : tAr Tryd.prog 164 9 16 1 = true := by kernel_rfl
theorem z_164 : tZ Tryd.prog 164 [str [], str [], str [], str [], str [], str [], str [], str [], str [], str [], str [], str [], str [], str [], str [], str []] := tZ_mk (by kernel_rfl)
theorem sz_164 : tSz Tryd.prog 164 16 = true := by kernel_rfl
theorem gf_79 : GoFn Tryd.prog 79 := .mk _ Tryd.func79 (by kernel_rfl) (by kernel_rfl)
theorem gf_80 : GoFn Tryd.prog 80 := .mk _ Tryd.func80 (by kernel_rfl) (by kernel_rfl)
theorem gf_81 : GoFn Tryd.prog 81 := .mk _ Tryd.func81 (by kernel_rfl) (by kernel_rfl)
theorem gf_62 : GoFn Tryd.prog 62 := .mk _ Tryd.func62 (by kernel_rfl) (by kernel_rfl)
theorem z_9 : tZ Tryd.prog 9 [str []] := tZ_mk (by kernel_rfl)
theorem ap_76 : AppTy Tryd.prog 76 9 1 16 := app_mk Tryd.underlying76 (by kernel_rfl) (by decide)
theorem fz_95_2 : tFz Tryd.prog 95 2 1 = true := by kernel_rfl
theorem fz_95_0 : tFz Tryd.prog 95 0 1 = true := by kernel_rfl
theorem fz_95_3 : tFz Tryd.prog 95 3 1 = true := by kernel_rfl
theorem fz_95_1 : tFz Tryd.prog 95 1 1 = true := by kernel_rfl
theorem gf_35 : GoFn Tryd.prog 35 := .mk _ Tryd.func35 (by kernel_rfl) (by kernel_rfl)
theorem gf_26 : GoFn Tryd.prog 26 := .mk _ Tryd.func26 (by kernel_rfl) (by kernel_rfl)
theorem gf_39 : GoFn Tryd.prog 39 := .mk _ Tryd.func39 (by kernel_rfl) (by kernel_rfl)
theorem gf_41 : GoFn Tryd.prog 41 := .mk _ Tryd.func41 (by kernel_rfl) (by kernel_rfl)
theorem gf_27 : GoFn Tryd.prog 27 := .mk _ Tryd.func27 (by kernel_rfl) (by kernel_rfl)
theorem gf_28 : GoFn Tryd.prog 28 := .mk _ Tryd.func28 (by kernel_rfl) (by kernel_rfl)
theorem gf_29 : GoFn Tryd.prog 29 := .mk _ Tryd.func29 (by kernel_rfl) (by kernel_rfl)
theorem gf_31 : GoFn Tryd.prog 31 := .mk _ Tryd.func31 (by kernel_rfl) (by kernel_rfl)
theorem gf_36 : GoFn Tryd.prog 36 := .mk _ Tryd.func36 (by kernel_rfl) (by kernel_rfl)
theorem gf_24 : GoFn Tryd.prog 24 := .mk _ Tryd.func24 (by kernel_rfl) (by kernel_rfl)
theorem gf_37 : GoFn Tryd.prog 37 := .mk _ Tryd.func37 (by kernel_rfl) (by kernel_rfl)
theorem gf_38 : GoFn Tryd.prog 38 := .mk _ Tryd.func38 (by kernel_rfl) (by kernel_rfl)
theorem fo_102_0 : tFo Tryd.prog 102 0 0 = true := by kernel_rfl
theorem fo_100_2 : tFo Tryd.prog 100 2 2 = true := by kernel_rfl
theorem sc_98 : tSc Tryd.prog 98 = true := by kernel_rfl
theorem sl_98 : tSl Tryd.prog 98 159 5 = true := by kernel_rfl
theorem fo_100_1 : tFo Tryd.prog 100 1 1 = true := by kernel_rfl
theorem sc_97 : tSc Tryd.prog 97 = true := by kernel_rfl
theorem sl_97 : tSl Tryd.prog 97 4 1 = true := by kernel_rfl
theorem fo_100_0 : tFo Tryd.prog 100 0 0 = true := by kernel_rfl
theorem sc_4 : tSc Tryd.prog 4 = true := by kernel_rfl
theorem z_159 : tZ Tryd.prog 159 [.bool false, .int .i64 0, .int .i64 0, .int .i64 0, .int .i64 0] := tZ_mk (by kernel_rfl)
theorem sz_159 : tSz Tryd.prog 159 5 = true := by kernel_rfl
theorem ag_159 : tAg Tryd.prog 159 5 = true := by kernel_rfl
theorem fo_159_3 : tFo Tryd.prog 159 3 3 = true := by kernel_rfl
theorem fo_159_4 : tFo Tryd.prog 159 4 4 = true := by kernel_rfl
theorem fo_159_2 : tFo Tryd.prog 159 2 2 = true := by kernel_rfl
theorem fo_100_3 : tFo Tryd.prog 100 3 3 = true := by kernel_rfl
theorem gf_95 : GoFn Tryd.prog 95 := .mk _ Tryd.func95 (by kernel_rfl) (by kernel_rfl)
theorem z_4 : tZ Tryd.prog 4 [.bool false] := tZ_mk (by kernel_rfl)
theorem ap_97 : AppTy Tryd.prog 97 4 1 1 := app_mk Tryd.underlying97 (by kernel_rfl) (by decide)
theorem sz_97 : tSz Tryd.prog 97 1 = true := by kernel_rfl
theorem sz_4 : tSz Tryd.prog 4 1 = true := by kernel_rfl
theorem gf_96 : GoFn Tryd.prog 96 := .mk _ Tryd.func96 (by kernel_rfl) (by kernel_rfl)
theorem ap_98 : AppTy Tryd.prog 98 159 5 40 := app_mk Tryd.underlying98 (by kernel_rfl) (by decide)
theorem sz_98 : tSz Tryd.prog 98 1 = true := by kernel_rfl
theorem fz_159_2 : tFz Tryd.prog 159 2 1 = true := by kernel_rfl
theorem fo_159_0 : tFo Tryd.prog 159 0 0 = true := by kernel_rfl
theorem fz_159_0 : tFz Tryd.prog 159 0 1 = true := by kernel_rfl
theorem fo_159_1 : tFo Tryd.prog 159 1 1 = true := by kernel_rfl
theorem gf_97 : GoFn Tryd.prog 97 := .mk _ Tryd.func97 (by kernel_rfl) (by kernel_rfl)
theorem gf_72 : GoFn Tryd.prog 72 := .mk _ Tryd.func72 (by kernel_rfl) (by kernel_rfl)
theorem gf_73 : GoFn Tryd.prog 73 := .mk _ Tryd.func73 (by kernel_rfl) (by kernel_rfl)
theorem fo_155_1 : tFo Tryd.prog 155 1 1 = true := by kernel_rfl
theorem fz_155_1 : tFz Tryd.prog 155 1 1 = true := by kernel_rfl
theorem fo_155_0 : tFo Tryd.prog 155 0 0 = true := by kernel_rfl
theorem fz_155_0 : tFz Tryd.prog 155 0 1 = true := by kernel_rfl
theorem z_155 : tZ Tryd.prog 155 [.int .i32 0, .int .i64 0, .int .i64 0, .bool false] := tZ_mk (by kernel_rfl)
theorem sl_152 : tSl Tryd.prog 152 155 4 = true := by kernel_rfl
theorem ap_152 : AppTy Tryd.prog 152 155 4 32 := app_mk Tryd.underlying152 (by kernel_rfl) (by decide)
theorem fo_155_2 : tFo Tryd.prog 155 2 2 = true := by kernel_rfl
theorem sc_21 : tSc Tryd.prog 21 = true := by kernel_rfl
theorem fo_155_3 : tFo Tryd.prog 155 3 3 = true := by kernel_rfl
theorem gf_93 : GoFn Tryd.prog 93 := .mk _ Tryd.func93 (by kernel_rfl) (by kernel_rfl)
theorem gf_94 : GoFn Tryd.prog 94 := .mk _ Tryd.func94 (by kernel_rfl) (by kernel_rfl)
theorem z_102 : tZ Tryd.prog 102 [.bool false, .slice none 0 0, .slice none 0 0, .bool false] := tZ_mk (by kernel_rfl)
theorem gf_69 : GoFn Tryd.prog 69 := .mk _ Tryd.func69 (by kernel_rfl) (by kernel_rfl)
theorem gf_70 : GoFn Tryd.prog 70 := .mk _ Tryd.func70 (by kernel_rfl) (by kernel_rfl)
theorem gf_49 : GoFn Tryd.prog 49 := .mk _ Tryd.func49 (by kernel_rfl) (by kernel_rfl)
theorem gf_48 : GoFn Tryd.prog 48 := .mk _ Tryd.func48 (by kernel_rfl) (by kernel_rfl)
theorem gf_71 : GoFn Tryd.prog 71 := .mk _ Tryd.func71 (by kernel_rfl) (by kernel_rfl)
theorem gf_45 : GoFn Tryd.prog 45 := .mk _ Tryd.func45 (by kernel_rfl) (by kernel_rfl)
theorem ag_93 : tAg Tryd.prog 93 2 = true := by kernel_rfl
theorem gf_14 : GoFn Tryd.prog 14 := .mk _ Tryd.func14 (by kernel_rfl) (by kernel_rfl)
theorem gf_16 : GoFn Tryd.prog 16 := .mk _ Tryd.func16 (by kernel_rfl) (by kernel_rfl)
theorem gf_17 : GoFn Tryd.prog 17 := .mk _ Tryd.func17 (by kernel_rfl) (by kernel_rfl)
theorem gf_19 : GoFn Tryd.prog 19 := .mk _ Tryd.func19 (by kernel_rfl) (by kernel_rfl)
theorem gf_23 : GoFn Tryd.prog 23 := .mk _ Tryd.func23 (by kernel_rfl) (by kernel_rfl)
theorem gf_21 : GoFn Tryd.prog 21 := .mk _ Tryd.func21 (by kernel_rfl) (by kernel_rfl)
theorem gf_47 : GoFn Tryd.prog 47 := .mk _ Tryd.func47 (by kernel_rfl) (by kernel_rfl)
theorem gf_25 : GoFn Tryd.prog 25 := .mk _ Tryd.func25 (by kernel_rfl) (by kernel_rfl)
theorem bo_4 : tBo Tryd.prog 4 = true := by kernel_rfl
end Go.Proofs.YtpaecijilnfkhaaDoor
