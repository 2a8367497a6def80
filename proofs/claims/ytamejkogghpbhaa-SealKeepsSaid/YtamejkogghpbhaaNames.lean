/- Printed by wip/gen/gen.py: the numbers of the functions, by name. -/
import Derived.Test.YtamejkogghpbhaaSx
import Derived.Test.YtamejkogghpbhaaChecked
namespace Go.Proofs.Ytamejkogghpbhaa
open Go.Sx
noncomputable abbrev P : Program := Try.prog
theorem mixed : P.follows .mixedOrders = true := by kernel_rfl
abbrev nr.main_main : Nat := 0
abbrev nr.gosem_cut : Nat := 1
abbrev nr.gosem_cut_init : Nat := 2
abbrev nr.law5_DiskStays : Nat := 3
abbrev nr.law5_DiskNames : Nat := 4
abbrev nr.law5_DiskPlays : Nat := 5
abbrev nr.law6_SealKeeps : Nat := 6
abbrev nr.law6_SealElder : Nat := 7
abbrev nr.law6_SealFull : Nat := 8
abbrev nr.law6_SealMany : Nat := 9
abbrev nr.law6_SealPlays : Nat := 10
abbrev nr.disk_New : Nat := 11
abbrev nr.law5_told : Nat := 12
abbrev nr.disk_Disk_Append : Nat := 13
abbrev nr.disk_Disk_Sync : Nat := 14
abbrev nr.disk_Disk_Crash : Nat := 15
abbrev nr.disk_Disk_Read : Nat := 16
abbrev nr.disk_Disk_Synced : Nat := 17
abbrev nr.disk_Disk_Used : Nat := 18
abbrev nr.disk_Disk_Names : Nat := 19
abbrev nr.disk_Disk_Rename : Nat := 20
abbrev nr.ref5_D_Append : Nat := 21
abbrev nr.ref5_D_Sync : Nat := 22
abbrev nr.disk_Disk_Cut : Nat := 23
abbrev nr.ref5_D_Cut : Nat := 24
abbrev nr.ref5_D_Rename : Nat := 25
abbrev nr.disk_Disk_Remove : Nat := 26
abbrev nr.ref5_D_Remove : Nat := 27
abbrev nr.ref5_D_Crash : Nat := 28
abbrev nr.disk_Disk_Copy : Nat := 29
abbrev nr.law5_same : Nat := 30
abbrev nr.ref5_D_Read : Nat := 31
abbrev nr.seal_Open : Nat := 32
abbrev nr.law6_few : Nat := 33
abbrev nr.law6_told : Nat := 34
abbrev nr.seal_Log_Put : Nat := 35
abbrev nr.seal_Log_Sync : Nat := 36
abbrev nr.seal_Log_Save : Nat := 37
abbrev nr.law6_texts : Nat := 38
abbrev nr.law4_Texts : Nat := 39
abbrev nr.seal_Log_Len : Nat := 40
abbrev nr.ref5_Open : Nat := 41
abbrev nr.ref5_L_Put : Nat := 42
abbrev nr.ref5_L_Sync : Nat := 43
abbrev nr.ref5_L_Save : Nat := 44
abbrev nr.law6_at : Nat := 45
abbrev nr.disk_may : Nat := 46
abbrev nr.disk_Disk_of : Nat := 47
abbrev nr.slices_Clone_s_byte_byte : Nat := 48
abbrev nr.slices_Sorted_string : Nat := 49
abbrev nr.maps_Keys_m_string_p_disk_file_string_p_disk_file : Nat := 50
abbrev nr.ref5_good : Nat := 51
abbrev nr.ref5_D_Used : Nat := 52
abbrev nr.ref5_D_at : Nat := 53
abbrev nr.seal_read : Nat := 54
abbrev nr.frame_Put : Nat := 55
abbrev nr.seal_generation : Nat := 56
abbrev nr.ref1_Read : Nat := 57
abbrev nr.ref5_gen : Nat := 58
abbrev nr.ref1_Frame : Nat := 59
abbrev nr.ref1_Int : Nat := 60
abbrev nr.slices_Collect_string : Nat := 61
abbrev nr.slices_Sort_s_string_string : Nat := 62
abbrev nr.maps_Keys_m_string_p_disk_file_string_p_disk_file_c1 : Nat := 63
abbrev nr.frame_Read : Nat := 64
abbrev nr.seal_aged : Nat := 65
abbrev nr.pack_Sum : Nat := 66
abbrev nr.pack_Writer_Int : Nat := 67
abbrev nr.pack_Writer_Bytes : Nat := 68
abbrev nr.ref1_One : Nat := 69
abbrev nr.ref1_R_Int : Nat := 70
abbrev nr.ref1_R_End : Nat := 71
abbrev nr.ref1_Sum : Nat := 72
abbrev nr.slices_AppendSeq_s_string_string : Nat := 73
abbrev nr.slices_pdqsortOrdered_string : Nat := 74
abbrev nr.math_bits_Len : Nat := 75
abbrev nr.frame_Read_c1 : Nat := 76
abbrev nr.frame_One : Nat := 77
abbrev nr.pack_New : Nat := 78
abbrev nr.pack_Reader_Int : Nat := 79
abbrev nr.pack_Reader_End : Nat := 80
abbrev nr.ref1_R_wrong : Nat := 81
abbrev nr.slices_insertionSortOrdered_string : Nat := 82
abbrev nr.slices_heapSortOrdered_string : Nat := 83
abbrev nr.slices_breakPatternsOrdered_string : Nat := 84
abbrev nr.slices_choosePivotOrdered_string : Nat := 85
abbrev nr.slices_reverseRangeOrdered_string : Nat := 86
abbrev nr.slices_partialInsertionSortOrdered_string : Nat := 87
abbrev nr.cmp_Less_string : Nat := 88
abbrev nr.slices_partitionEqualOrdered_string : Nat := 89
abbrev nr.slices_partitionOrdered_string : Nat := 90
abbrev nr.math_bits_Len32 : Nat := 91
abbrev nr.math_bits_Len64 : Nat := 92
abbrev nr.pack_take_int64 : Nat := 93
abbrev nr.pack_Reader_Int_c1 : Nat := 94
abbrev nr.pack_groups : Nat := 95
abbrev nr.slices_siftDownOrdered_string : Nat := 96
abbrev nr.slices_nextPowerOfTwo : Nat := 97
abbrev nr.slices_xorshift_Next : Nat := 98
abbrev nr.slices_medianAdjacentOrdered_string : Nat := 99
abbrev nr.slices_medianOrdered_string : Nat := 100
abbrev nr.cmp_isNaN_string : Nat := 101
abbrev nr.slices_order2Ordered_string : Nat := 102
abbrev nr.runtime_boundsError_Error : Nat := 103
abbrev nr.runtime_boundsError_RuntimeError : Nat := 104
abbrev nr.runtime_errorString_Error : Nat := 105
abbrev nr.runtime_errorString_RuntimeError : Nat := 106
abbrev nr.runtime_plainError_Error : Nat := 107
abbrev nr.runtime_plainError_RuntimeError : Nat := 108
abbrev nr.runtime_errorAddressString_Error : Nat := 109
abbrev nr.runtime_errorAddressString_RuntimeError : Nat := 110
abbrev nr.runtime_TypeAssertionError_Error : Nat := 111
abbrev nr.runtime_TypeAssertionError_RuntimeError : Nat := 112
abbrev nr.runtime_PanicNilError_Error : Nat := 113
abbrev nr.runtime_PanicNilError_RuntimeError : Nat := 114
abbrev nr.internal_abi_Type_Align : Nat := 115
abbrev nr.internal_runtime_maps_unhashableTypeError_Error : Nat := 116
abbrev nr.internal_runtime_maps_unhashableTypeError_RuntimeError : Nat := 117
abbrev nr.pack_Reader_Byte : Nat := 118
abbrev nr.pack_Writer_Byte : Nat := 119
abbrev nr.internal_abi_Kind_String : Nat := 120
abbrev ty.int64 : Nat := 2
theorem und.int64 : P.underlying 2 = some (TypeDesc.int IntKind.i64) := by kernel_rfl
theorem inf.int64 : P.info? 2 = some Try.t2 := by kernel_rfl
abbrev ty.int : Nat := 3
theorem und.int : P.underlying 3 = some (TypeDesc.int IntKind.i64) := by kernel_rfl
theorem inf.int : P.info? 3 = some Try.t3 := by kernel_rfl
abbrev ty.bool : Nat := 4
theorem und.bool : P.underlying 4 = some (TypeDesc.bool) := by kernel_rfl
theorem inf.bool : P.info? 4 = some Try.t4 := by kernel_rfl
abbrev ty.uint8 : Nat := 5
theorem und.uint8 : P.underlying 5 = some (TypeDesc.int IntKind.u8) := by kernel_rfl
theorem inf.uint8 : P.info? 5 = some Try.t5 := by kernel_rfl
abbrev ty.internal_abi_BoundsErrorCode : Nat := 6
theorem und.internal_abi_BoundsErrorCode : P.underlying 6 = some (TypeDesc.int IntKind.u8) := by kernel_rfl
theorem inf.internal_abi_BoundsErrorCode : P.info? 6 = some Try.t6 := by kernel_rfl
abbrev ty.runtime_boundsError : Nat := 8
theorem und.runtime_boundsError : (∃ fs, P.underlying 8 = some (.struct fs)) := ⟨_, (show P.underlying 8 = some (TypeDesc.struct #[{ name := "x", type := 2, offset := 0, embedded := false, tag := "", pkgPath := "runtime", byteOffset := 0 }, { name := "y", type := 3, offset := 1, embedded := false, tag := "", pkgPath := "runtime", byteOffset := 8 }, { name := "signed", type := 4, offset := 2, embedded := false, tag := "", pkgPath := "runtime", byteOffset := 16 }, { name := "code", type := 6, offset := 3, embedded := false, tag := "", pkgPath := "runtime", byteOffset := 17 }]) by kernel_rfl)⟩
theorem inf.runtime_boundsError : P.info? 8 = some Try.t8 := by kernel_rfl
abbrev ty.string : Nat := 9
theorem und.string : P.underlying 9 = some (TypeDesc.string) := by kernel_rfl
theorem inf.string : P.info? 9 = some Try.t9 := by kernel_rfl
abbrev ty.runtime_errorString : Nat := 10
theorem und.runtime_errorString : P.underlying 10 = some (TypeDesc.string) := by kernel_rfl
theorem inf.runtime_errorString : P.info? 10 = some Try.t10 := by kernel_rfl
abbrev ty.runtime_plainError : Nat := 11
theorem und.runtime_plainError : P.underlying 11 = some (TypeDesc.string) := by kernel_rfl
theorem inf.runtime_plainError : P.info? 11 = some Try.t11 := by kernel_rfl
abbrev ty.uintptr : Nat := 12
theorem und.uintptr : P.underlying 12 = some (TypeDesc.int IntKind.u64) := by kernel_rfl
theorem inf.uintptr : P.info? 12 = some Try.t12 := by kernel_rfl
abbrev ty.runtime_errorAddressString : Nat := 14
theorem und.runtime_errorAddressString : (∃ fs, P.underlying 14 = some (.struct fs)) := ⟨_, (show P.underlying 14 = some (TypeDesc.struct #[{ name := "msg", type := 9, offset := 0, embedded := false, tag := "", pkgPath := "runtime", byteOffset := 0 }, { name := "addr", type := 12, offset := 1, embedded := false, tag := "", pkgPath := "runtime", byteOffset := 16 }]) by kernel_rfl)⟩
theorem inf.runtime_errorAddressString : P.info? 14 = some Try.t14 := by kernel_rfl
abbrev ty.p_runtime_TypeAssertionError : Nat := 15
theorem und.p_runtime_TypeAssertionError : P.underlying 15 = some (TypeDesc.pointer 158) := by kernel_rfl
theorem inf.p_runtime_TypeAssertionError : P.info? 15 = some Try.t15 := by kernel_rfl
abbrev ty.p_runtime_PanicNilError : Nat := 16
theorem und.p_runtime_PanicNilError : P.underlying 16 = some (TypeDesc.pointer 161) := by kernel_rfl
theorem inf.p_runtime_PanicNilError : P.info? 16 = some Try.t16 := by kernel_rfl
abbrev ty.p_internal_abi_Type : Nat := 17
theorem und.p_internal_abi_Type : P.underlying 17 = some (TypeDesc.pointer 169) := by kernel_rfl
theorem inf.p_internal_abi_Type : P.info? 17 = some Try.t17 := by kernel_rfl
abbrev ty.internal_runtime_maps_unhashableTypeError : Nat := 19
theorem und.internal_runtime_maps_unhashableTypeError : (∃ fs, P.underlying 19 = some (.struct fs)) := ⟨_, (show P.underlying 19 = some (TypeDesc.struct #[{ name := "typ", type := 17, offset := 0, embedded := false, tag := "", pkgPath := "internal/runtime/maps", byteOffset := 0 }]) by kernel_rfl)⟩
theorem inf.internal_runtime_maps_unhashableTypeError : P.info? 19 = some Try.t19 := by kernel_rfl
abbrev ty.int32 : Nat := 21
theorem und.int32 : P.underlying 21 = some (TypeDesc.int IntKind.i32) := by kernel_rfl
theorem inf.int32 : P.info? 21 = some Try.t21 := by kernel_rfl
abbrev ty.s_uint8 : Nat := 22
theorem und.s_uint8 : P.underlying 22 = some (TypeDesc.slice 5) := by kernel_rfl
theorem inf.s_uint8 : P.info? 22 = some Try.t22 := by kernel_rfl
abbrev ty.p_disk_Disk : Nat := 23
theorem und.p_disk_Disk : P.underlying 23 = some (TypeDesc.pointer 81) := by kernel_rfl
theorem inf.p_disk_Disk : P.info? 23 = some Try.t23 := by kernel_rfl
abbrev ty.s_string : Nat := 34
theorem und.s_string : P.underlying 34 = some (TypeDesc.slice 9) := by kernel_rfl
theorem inf.s_string : P.info? 34 = some Try.t34 := by kernel_rfl
abbrev ty.uint : Nat := 35
theorem und.uint : P.underlying 35 = some (TypeDesc.int IntKind.u64) := by kernel_rfl
theorem inf.uint : P.info? 35 = some Try.t35 := by kernel_rfl
abbrev ty.s_law5_Op : Nat := 39
theorem und.s_law5_Op : P.underlying 39 = some (TypeDesc.slice 45) := by kernel_rfl
theorem inf.s_law5_Op : P.info? 39 = some Try.t39 := by kernel_rfl
abbrev ty.p_ref5_D : Nat := 40
theorem und.p_ref5_D : P.underlying 40 = some (TypeDesc.pointer 43) := by kernel_rfl
theorem inf.p_ref5_D : P.info? 40 = some Try.t40 := by kernel_rfl
abbrev ty.s_ref5_File : Nat := 41
theorem und.s_ref5_File : P.underlying 41 = some (TypeDesc.slice 76) := by kernel_rfl
theorem inf.s_ref5_File : P.info? 41 = some Try.t41 := by kernel_rfl
abbrev ty.ref5_D : Nat := 43
theorem und.ref5_D : (∃ fs, P.underlying 43 = some (.struct fs)) := ⟨_, (show P.underlying 43 = some (TypeDesc.struct #[{ name := "Room", type := 3, offset := 0, embedded := false, tag := "", pkgPath := "", byteOffset := 0 }, { name := "Files", type := 41, offset := 1, embedded := false, tag := "", pkgPath := "", byteOffset := 8 }]) by kernel_rfl)⟩
theorem inf.ref5_D : P.info? 43 = some Try.t43 := by kernel_rfl
abbrev ty.law5_Op : Nat := 45
theorem und.law5_Op : (∃ fs, P.underlying 45 = some (.struct fs)) := ⟨_, (show P.underlying 45 = some (TypeDesc.struct #[{ name := "Kind", type := 3, offset := 0, embedded := false, tag := "", pkgPath := "", byteOffset := 0 }, { name := "N", type := 3, offset := 1, embedded := false, tag := "", pkgPath := "", byteOffset := 8 }, { name := "Name", type := 9, offset := 2, embedded := false, tag := "", pkgPath := "", byteOffset := 16 }, { name := "To", type := 9, offset := 3, embedded := false, tag := "", pkgPath := "", byteOffset := 32 }, { name := "B", type := 22, offset := 4, embedded := false, tag := "", pkgPath := "", byteOffset := 48 }]) by kernel_rfl)⟩
theorem inf.law5_Op : P.info? 45 = some Try.t45 := by kernel_rfl
abbrev ty.s_law6_Op : Nat := 52
theorem und.s_law6_Op : P.underlying 52 = some (TypeDesc.slice 58) := by kernel_rfl
theorem inf.s_law6_Op : P.info? 52 = some Try.t52 := by kernel_rfl
abbrev ty.p_seal_Log : Nat := 53
theorem und.p_seal_Log : P.underlying 53 = some (TypeDesc.pointer 99) := by kernel_rfl
theorem inf.p_seal_Log : P.info? 53 = some Try.t53 := by kernel_rfl
abbrev ty.s_s_uint8 : Nat := 54
theorem und.s_s_uint8 : P.underlying 54 = some (TypeDesc.slice 22) := by kernel_rfl
theorem inf.s_s_uint8 : P.info? 54 = some Try.t54 := by kernel_rfl
abbrev ty.law6_Op : Nat := 58
theorem und.law6_Op : (∃ fs, P.underlying 58 = some (.struct fs)) := ⟨_, (show P.underlying 58 = some (TypeDesc.struct #[{ name := "Kind", type := 3, offset := 0, embedded := false, tag := "", pkgPath := "", byteOffset := 0 }, { name := "N", type := 3, offset := 1, embedded := false, tag := "", pkgPath := "", byteOffset := 8 }, { name := "B", type := 22, offset := 2, embedded := false, tag := "", pkgPath := "", byteOffset := 16 }, { name := "L", type := 54, offset := 3, embedded := false, tag := "", pkgPath := "", byteOffset := 40 }]) by kernel_rfl)⟩
theorem inf.law6_Op : P.info? 58 = some Try.t58 := by kernel_rfl
abbrev ty.s_int : Nat := 67
theorem und.s_int : P.underlying 67 = some (TypeDesc.slice 3) := by kernel_rfl
theorem inf.s_int : P.info? 67 = some Try.t67 := by kernel_rfl
abbrev ty.p_ref5_L : Nat := 69
theorem und.p_ref5_L : P.underlying 69 = some (TypeDesc.pointer 74) := by kernel_rfl
theorem inf.p_ref5_L : P.info? 69 = some Try.t69 := by kernel_rfl
abbrev ty.ref5_L : Nat := 74
theorem und.ref5_L : (∃ fs, P.underlying 74 = some (.struct fs)) := ⟨_, (show P.underlying 74 = some (TypeDesc.struct #[{ name := "D", type := 40, offset := 0, embedded := false, tag := "", pkgPath := "", byteOffset := 0 }, { name := "Gen", type := 2, offset := 1, embedded := false, tag := "", pkgPath := "", byteOffset := 8 }, { name := "N", type := 3, offset := 2, embedded := false, tag := "", pkgPath := "", byteOffset := 16 }, { name := "Empty", type := 4, offset := 3, embedded := false, tag := "", pkgPath := "", byteOffset := 24 }]) by kernel_rfl)⟩
theorem inf.ref5_L : P.info? 74 = some Try.t74 := by kernel_rfl
abbrev ty.ref5_File : Nat := 76
theorem und.ref5_File : (∃ fs, P.underlying 76 = some (.struct fs)) := ⟨_, (show P.underlying 76 = some (TypeDesc.struct #[{ name := "Name", type := 9, offset := 0, embedded := false, tag := "", pkgPath := "", byteOffset := 0 }, { name := "S", type := 9, offset := 1, embedded := false, tag := "", pkgPath := "", byteOffset := 16 }, { name := "Sync", type := 3, offset := 2, embedded := false, tag := "", pkgPath := "", byteOffset := 32 }]) by kernel_rfl)⟩
theorem inf.ref5_File : P.info? 76 = some Try.t76 := by kernel_rfl
abbrev ty.m_string_p_disk_file : Nat := 79
theorem und.m_string_p_disk_file : P.underlying 79 = some (TypeDesc.map 9 83) := by kernel_rfl
theorem inf.m_string_p_disk_file : P.info? 79 = some Try.t79 := by kernel_rfl
abbrev ty.disk_Disk : Nat := 81
theorem und.disk_Disk : (∃ fs, P.underlying 81 = some (.struct fs)) := ⟨_, (show P.underlying 81 = some (TypeDesc.struct #[{ name := "files", type := 79, offset := 0, embedded := false, tag := "", pkgPath := "sojourn/disk", byteOffset := 0 }, { name := "room", type := 3, offset := 1, embedded := false, tag := "", pkgPath := "sojourn/disk", byteOffset := 8 }]) by kernel_rfl)⟩
theorem inf.disk_Disk : P.info? 81 = some Try.t81 := by kernel_rfl
abbrev ty.p_disk_file : Nat := 83
theorem und.p_disk_file : P.underlying 83 = some (TypeDesc.pointer 85) := by kernel_rfl
theorem inf.p_disk_file : P.info? 83 = some Try.t83 := by kernel_rfl
abbrev ty.disk_file : Nat := 85
theorem und.disk_file : (∃ fs, P.underlying 85 = some (.struct fs)) := ⟨_, (show P.underlying 85 = some (TypeDesc.struct #[{ name := "b", type := 22, offset := 0, embedded := false, tag := "", pkgPath := "sojourn/disk", byteOffset := 0 }, { name := "synced", type := 3, offset := 1, embedded := false, tag := "", pkgPath := "sojourn/disk", byteOffset := 24 }]) by kernel_rfl)⟩
theorem inf.disk_file : P.info? 85 = some Try.t85 := by kernel_rfl
abbrev ty.iter_Seq_string : Nat := 90
theorem und.iter_Seq_string : P.underlying 90 = some (TypeDesc.func #[82] #[] false) := by kernel_rfl
theorem inf.iter_Seq_string : P.info? 90 = some Try.t90 := by kernel_rfl
abbrev ty.seal_kept_s_byte : Nat := 95
theorem und.seal_kept_s_byte : (∃ fs, P.underlying 95 = some (.struct fs)) := ⟨_, (show P.underlying 95 = some (TypeDesc.struct #[{ name := "age", type := 2, offset := 0, embedded := false, tag := "", pkgPath := "sojourn/seal", byteOffset := 0 }, { name := "rows", type := 54, offset := 1, embedded := false, tag := "", pkgPath := "sojourn/seal", byteOffset := 8 }]) by kernel_rfl)⟩
theorem inf.seal_kept_s_byte : P.info? 95 = some Try.t95 := by kernel_rfl
abbrev ty.seal_Log : Nat := 99
theorem und.seal_Log : (∃ fs, P.underlying 99 = some (.struct fs)) := ⟨_, (show P.underlying 99 = some (TypeDesc.struct #[{ name := "d", type := 23, offset := 0, embedded := false, tag := "", pkgPath := "sojourn/seal", byteOffset := 0 }, { name := "age", type := 2, offset := 1, embedded := false, tag := "", pkgPath := "sojourn/seal", byteOffset := 8 }, { name := "n", type := 3, offset := 2, embedded := false, tag := "", pkgPath := "sojourn/seal", byteOffset := 16 }]) by kernel_rfl)⟩
theorem inf.seal_Log : P.info? 99 = some Try.t99 := by kernel_rfl
abbrev ty.uint32 : Nat := 111
theorem und.uint32 : P.underlying 111 = some (TypeDesc.int IntKind.u32) := by kernel_rfl
theorem inf.uint32 : P.info? 111 = some Try.t111 := by kernel_rfl
abbrev ty.pack_Writer : Nat := 114
theorem und.pack_Writer : (∃ fs, P.underlying 114 = some (.struct fs)) := ⟨_, (show P.underlying 114 = some (TypeDesc.struct #[{ name := "b", type := 22, offset := 0, embedded := false, tag := "", pkgPath := "sojourn/pack", byteOffset := 0 }]) by kernel_rfl)⟩
theorem inf.pack_Writer : P.info? 114 = some Try.t114 := by kernel_rfl
abbrev ty.p_ref1_R : Nat := 118
theorem und.p_ref1_R : P.underlying 118 = some (TypeDesc.pointer 120) := by kernel_rfl
theorem inf.p_ref1_R : P.info? 118 = some Try.t118 := by kernel_rfl
abbrev ty.ref1_R : Nat := 120
theorem und.ref1_R : (∃ fs, P.underlying 120 = some (.struct fs)) := ⟨_, (show P.underlying 120 = some (TypeDesc.struct #[{ name := "S", type := 9, offset := 0, embedded := false, tag := "", pkgPath := "", byteOffset := 0 }, { name := "Bad", type := 4, offset := 1, embedded := false, tag := "", pkgPath := "", byteOffset := 16 }]) by kernel_rfl)⟩
theorem inf.ref1_R : P.info? 120 = some Try.t120 := by kernel_rfl
abbrev ty.uint64 : Nat := 123
theorem und.uint64 : P.underlying 123 = some (TypeDesc.int IntKind.u64) := by kernel_rfl
theorem inf.uint64 : P.info? 123 = some Try.t123 := by kernel_rfl
abbrev ty.p_pack_Reader : Nat := 128
theorem und.p_pack_Reader : P.underlying 128 = some (TypeDesc.pointer 141) := by kernel_rfl
theorem inf.p_pack_Reader : P.info? 128 = some Try.t128 := by kernel_rfl
abbrev ty.p_pack_Writer : Nat := 130
theorem und.p_pack_Writer : P.underlying 130 = some (TypeDesc.pointer 114) := by kernel_rfl
theorem inf.p_pack_Writer : P.info? 130 = some Try.t130 := by kernel_rfl
abbrev ty.slices_sortedHint : Nat := 132
theorem und.slices_sortedHint : P.underlying 132 = some (TypeDesc.int IntKind.i64) := by kernel_rfl
theorem inf.slices_sortedHint : P.info? 132 = some Try.t132 := by kernel_rfl
abbrev ty.pack_Reader : Nat := 141
theorem und.pack_Reader : (∃ fs, P.underlying 141 = some (.struct fs)) := ⟨_, (show P.underlying 141 = some (TypeDesc.struct #[{ name := "b", type := 22, offset := 0, embedded := false, tag := "", pkgPath := "sojourn/pack", byteOffset := 0 }, { name := "wrong", type := 4, offset := 1, embedded := false, tag := "", pkgPath := "sojourn/pack", byteOffset := 24 }]) by kernel_rfl)⟩
theorem inf.pack_Reader : P.info? 141 = some Try.t141 := by kernel_rfl
abbrev ty.slices_xorshift : Nat := 146
theorem und.slices_xorshift : P.underlying 146 = some (TypeDesc.int IntKind.u64) := by kernel_rfl
theorem inf.slices_xorshift : P.info? 146 = some Try.t146 := by kernel_rfl
abbrev ty.p_int : Nat := 150
theorem und.p_int : P.underlying 150 = some (TypeDesc.pointer 3) := by kernel_rfl
theorem inf.p_int : P.info? 150 = some Try.t150 := by kernel_rfl
abbrev ty.p_slices_xorshift : Nat := 153
theorem und.p_slices_xorshift : P.underlying 153 = some (TypeDesc.pointer 146) := by kernel_rfl
theorem inf.p_slices_xorshift : P.info? 153 = some Try.t153 := by kernel_rfl
abbrev ty.runtime_TypeAssertionError : Nat := 158
theorem und.runtime_TypeAssertionError : (∃ fs, P.underlying 158 = some (.struct fs)) := ⟨_, (show P.underlying 158 = some (TypeDesc.struct #[{ name := "_interface", type := 17, offset := 0, embedded := false, tag := "", pkgPath := "runtime", byteOffset := 0 }, { name := "concrete", type := 17, offset := 1, embedded := false, tag := "", pkgPath := "runtime", byteOffset := 8 }, { name := "asserted", type := 17, offset := 2, embedded := false, tag := "", pkgPath := "runtime", byteOffset := 16 }, { name := "missingMethod", type := 9, offset := 3, embedded := false, tag := "", pkgPath := "runtime", byteOffset := 24 }]) by kernel_rfl)⟩
theorem inf.runtime_TypeAssertionError : P.info? 158 = some Try.t158 := by kernel_rfl
abbrev ty.a0_p_runtime_PanicNilError : Nat := 159
theorem und.a0_p_runtime_PanicNilError : P.underlying 159 = some (TypeDesc.array 0 16) := by kernel_rfl
theorem inf.a0_p_runtime_PanicNilError : P.info? 159 = some Try.t159 := by kernel_rfl
abbrev ty.runtime_PanicNilError : Nat := 161
theorem und.runtime_PanicNilError : (∃ fs, P.underlying 161 = some (.struct fs)) := ⟨_, (show P.underlying 161 = some (TypeDesc.struct #[{ name := "_", type := 159, offset := 0, embedded := false, tag := "", pkgPath := "runtime", byteOffset := 0 }]) by kernel_rfl)⟩
theorem inf.runtime_PanicNilError : P.info? 161 = some Try.t161 := by kernel_rfl
abbrev ty.internal_abi_TFlag : Nat := 162
theorem und.internal_abi_TFlag : P.underlying 162 = some (TypeDesc.int IntKind.u8) := by kernel_rfl
theorem inf.internal_abi_TFlag : P.info? 162 = some Try.t162 := by kernel_rfl
abbrev ty.internal_abi_Kind : Nat := 163
theorem und.internal_abi_Kind : P.underlying 163 = some (TypeDesc.int IntKind.u8) := by kernel_rfl
theorem inf.internal_abi_Kind : P.info? 163 = some Try.t163 := by kernel_rfl
abbrev ty.p_uint8 : Nat := 165
theorem und.p_uint8 : P.underlying 165 = some (TypeDesc.pointer 5) := by kernel_rfl
theorem inf.p_uint8 : P.info? 165 = some Try.t165 := by kernel_rfl
abbrev ty.internal_abi_NameOff : Nat := 166
theorem und.internal_abi_NameOff : P.underlying 166 = some (TypeDesc.int IntKind.i32) := by kernel_rfl
theorem inf.internal_abi_NameOff : P.info? 166 = some Try.t166 := by kernel_rfl
abbrev ty.internal_abi_TypeOff : Nat := 167
theorem und.internal_abi_TypeOff : P.underlying 167 = some (TypeDesc.int IntKind.i32) := by kernel_rfl
theorem inf.internal_abi_TypeOff : P.info? 167 = some Try.t167 := by kernel_rfl
abbrev ty.internal_abi_Type : Nat := 169
theorem und.internal_abi_Type : (∃ fs, P.underlying 169 = some (.struct fs)) := ⟨_, (show P.underlying 169 = some (TypeDesc.struct #[{ name := "Size_", type := 12, offset := 0, embedded := false, tag := "", pkgPath := "", byteOffset := 0 }, { name := "PtrBytes", type := 12, offset := 1, embedded := false, tag := "", pkgPath := "", byteOffset := 8 }, { name := "Hash", type := 111, offset := 2, embedded := false, tag := "", pkgPath := "", byteOffset := 16 }, { name := "TFlag", type := 162, offset := 3, embedded := false, tag := "", pkgPath := "", byteOffset := 20 }, { name := "Align_", type := 5, offset := 4, embedded := false, tag := "", pkgPath := "", byteOffset := 21 }, { name := "FieldAlign_", type := 5, offset := 5, embedded := false, tag := "", pkgPath := "", byteOffset := 22 }, { name := "Kind_", type := 163, offset := 6, embedded := false, tag := "", pkgPath := "", byteOffset := 23 }, { name := "Equal", type := 164, offset := 7, embedded := false, tag := "", pkgPath := "", byteOffset := 24 }, { name := "GCData", type := 165, offset := 8, embedded := false, tag := "", pkgPath := "", byteOffset := 32 }, { name := "Str", type := 166, offset := 9, embedded := false, tag := "", pkgPath := "", byteOffset := 40 }, { name := "PtrToThis", type := 167, offset := 10, embedded := false, tag := "", pkgPath := "", byteOffset := 44 }]) by kernel_rfl)⟩
theorem inf.internal_abi_Type : P.info? 169 = some Try.t169 := by kernel_rfl
end Go.Proofs.Ytamejkogghpbhaa
