import Derived.Test.YtamejkogghpbhaaMg1
import Derived.Test.YtamejkogghpbhaaChecked
section
/- Printed by wip/gen/gen.py: the numbers of the functions, by name. -/
namespace Go.Proofs.Ytamejkogghpbhaa
open Go.Sx
noncomputable abbrev P : Program := Try.prog
theorem mixed : P.follows .mixedOrders = true := by kernel_rfl
abbrev nr.main_main : Nat := 0
abbrev nr.gosem_cut : Nat := 1
abbrev nr.gosem_cut_init : Nat := 2
abbrev nr.law5_DiskStays : Nat := 3
abbrev nr.law5_DiskNames : Nat := 4
abbrev nr.law5_DiskPlays : Nat := 5
abbrev nr.law6_SealKeeps : Nat := 6
abbrev nr.law6_SealElder : Nat := 7
abbrev nr.law6_SealFull : Nat := 8
abbrev nr.law6_SealMany : Nat := 9
abbrev nr.law6_SealPlays : Nat := 10
abbrev nr.disk_New : Nat := 11
abbrev nr.law5_told : Nat := 12
abbrev nr.disk_Disk_Append : Nat := 13
abbrev nr.disk_Disk_Sync : Nat := 14
abbrev nr.disk_Disk_Crash : Nat := 15
abbrev nr.disk_Disk_Read : Nat := 16
abbrev nr.disk_Disk_Synced : Nat := 17
abbrev nr.disk_Disk_Used : Nat := 18
abbrev nr.disk_Disk_Names : Nat := 19
abbrev nr.disk_Disk_Rename : Nat := 20
abbrev nr.ref5_D_Append : Nat := 21
abbrev nr.ref5_D_Sync : Nat := 22
abbrev nr.disk_Disk_Cut : Nat := 23
abbrev nr.ref5_D_Cut : Nat := 24
abbrev nr.ref5_D_Rename : Nat := 25
abbrev nr.disk_Disk_Remove : Nat := 26
abbrev nr.ref5_D_Remove : Nat := 27
abbrev nr.ref5_D_Crash : Nat := 28
abbrev nr.disk_Disk_Copy : Nat := 29
abbrev nr.law5_same : Nat := 30
abbrev nr.ref5_D_Read : Nat := 31
abbrev nr.seal_Open : Nat := 32
abbrev nr.law6_few : Nat := 33
abbrev nr.law6_told : Nat := 34
abbrev nr.seal_Log_Put : Nat := 35
abbrev nr.seal_Log_Sync : Nat := 36
abbrev nr.seal_Log_Save : Nat := 37
abbrev nr.law6_texts : Nat := 38
abbrev nr.law4_Texts : Nat := 39
abbrev nr.seal_Log_Len : Nat := 40
abbrev nr.ref5_Open : Nat := 41
abbrev nr.ref5_L_Put : Nat := 42
abbrev nr.ref5_L_Sync : Nat := 43
abbrev nr.ref5_L_Save : Nat := 44
abbrev nr.law6_at : Nat := 45
abbrev nr.disk_may : Nat := 46
abbrev nr.disk_Disk_of : Nat := 47
abbrev nr.slices_Clone_s_byte_byte : Nat := 48
abbrev nr.slices_Sorted_string : Nat := 49
abbrev nr.maps_Keys_m_string_p_disk_file_string_p_disk_file : Nat := 50
abbrev nr.ref5_good : Nat := 51
abbrev nr.ref5_D_Used : Nat := 52
abbrev nr.ref5_D_at : Nat := 53
abbrev nr.seal_read : Nat := 54
abbrev nr.frame_Put : Nat := 55
abbrev nr.seal_generation : Nat := 56
abbrev nr.ref1_Read : Nat := 57
abbrev nr.ref5_gen : Nat := 58
abbrev nr.ref1_Frame : Nat := 59
abbrev nr.ref1_Int : Nat := 60
abbrev nr.slices_Collect_string : Nat := 61
abbrev nr.slices_Sort_s_string_string : Nat := 62
abbrev nr.maps_Keys_m_string_p_disk_file_string_p_disk_file_c1 : Nat := 63
abbrev nr.frame_Read : Nat := 64
abbrev nr.seal_aged : Nat := 65
abbrev nr.pack_Sum : Nat := 66
abbrev nr.pack_Writer_Int : Nat := 67
abbrev nr.pack_Writer_Bytes : Nat := 68
abbrev nr.ref1_One : Nat := 69
abbrev nr.ref1_R_Int : Nat := 70
abbrev nr.ref1_R_End : Nat := 71
abbrev nr.ref1_Sum : Nat := 72
abbrev nr.slices_AppendSeq_s_string_string : Nat := 73
abbrev nr.slices_pdqsortOrdered_string : Nat := 74
abbrev nr.math_bits_Len : Nat := 75
abbrev nr.frame_Read_c1 : Nat := 76
abbrev nr.frame_One : Nat := 77
abbrev nr.pack_New : Nat := 78
abbrev nr.pack_Reader_Int : Nat := 79
abbrev nr.pack_Reader_End : Nat := 80
abbrev nr.ref1_R_wrong : Nat := 81
abbrev nr.slices_insertionSortOrdered_string : Nat := 82
abbrev nr.slices_heapSortOrdered_string : Nat := 83
abbrev nr.slices_breakPatternsOrdered_string : Nat := 84
abbrev nr.slices_choosePivotOrdered_string : Nat := 85
abbrev nr.slices_reverseRangeOrdered_string : Nat := 86
abbrev nr.slices_partialInsertionSortOrdered_string : Nat := 87
abbrev nr.cmp_Less_string : Nat := 88
abbrev nr.slices_partitionEqualOrdered_string : Nat := 89
abbrev nr.slices_partitionOrdered_string : Nat := 90
abbrev nr.math_bits_Len32 : Nat := 91
abbrev nr.math_bits_Len64 : Nat := 92
abbrev nr.pack_take_int64 : Nat := 93
abbrev nr.pack_Reader_Int_c1 : Nat := 94
abbrev nr.pack_groups : Nat := 95
abbrev nr.slices_siftDownOrdered_string : Nat := 96
abbrev nr.slices_nextPowerOfTwo : Nat := 97
abbrev nr.slices_xorshift_Next : Nat := 98
abbrev nr.slices_medianAdjacentOrdered_string : Nat := 99
abbrev nr.slices_medianOrdered_string : Nat := 100
abbrev nr.cmp_isNaN_string : Nat := 101
abbrev nr.slices_order2Ordered_string : Nat := 102
abbrev nr.runtime_boundsError_Error : Nat := 103
abbrev nr.runtime_boundsError_RuntimeError : Nat := 104
abbrev nr.runtime_errorString_Error : Nat := 105
abbrev nr.runtime_errorString_RuntimeError : Nat := 106
abbrev nr.runtime_plainError_Error : Nat := 107
abbrev nr.runtime_plainError_RuntimeError : Nat := 108
abbrev nr.runtime_errorAddressString_Error : Nat := 109
abbrev nr.runtime_errorAddressString_RuntimeError : Nat := 110
abbrev nr.runtime_TypeAssertionError_Error : Nat := 111
abbrev nr.runtime_TypeAssertionError_RuntimeError : Nat := 112
abbrev nr.runtime_PanicNilError_Error : Nat := 113
abbrev nr.runtime_PanicNilError_RuntimeError : Nat := 114
abbrev nr.internal_abi_Type_Align : Nat := 115
abbrev nr.internal_runtime_maps_unhashableTypeError_Error : Nat := 116
abbrev nr.internal_runtime_maps_unhashableTypeError_RuntimeError : Nat := 117
abbrev nr.pack_Reader_Byte : Nat := 118
abbrev nr.pack_Writer_Byte : Nat := 119
abbrev nr.internal_abi_Kind_String : Nat := 120
abbrev ty.int64 : Nat := 2
theorem und.int64 : P.underlying 2 = some (TypeDesc.int IntKind.i64) := by kernel_rfl
theorem inf.int64 : P.info? 2 = some Try.t2 := by kernel_rfl
abbrev ty.int : Nat := 3
theorem und.int : P.underlying 3 = some (TypeDesc.int IntKind.i64) := by kernel_rfl
theorem inf.int : P.info? 3 = some Try.t3 := by kernel_rfl
abbrev ty.bool : Nat := 4
theorem und.bool : P.underlying 4 = some (TypeDesc.bool) := by kernel_rfl
theorem inf.bool : P.info? 4 = some Try.t4 := by kernel_rfl
abbrev ty.uint8 : Nat := 5
theorem und.uint8 : P.underlying 5 = some (TypeDesc.int IntKind.u8) := by kernel_rfl
theorem inf.uint8 : P.info? 5 = some Try.t5 := by kernel_rfl
abbrev ty.internal_abi_BoundsErrorCode : Nat := 6
theorem und.internal_abi_BoundsErrorCode : P.underlying 6 = some (TypeDesc.int IntKind.u8) := by kernel_rfl
theorem inf.internal_abi_BoundsErrorCode : P.info? 6 = some Try.t6 := by kernel_rfl
abbrev ty.runtime_boundsError : Nat := 8
theorem und.runtime_boundsError : (∃ fs, P.underlying 8 = some (.struct fs)) := ⟨_, (show P.underlying 8 = some (TypeDesc.struct #[{ name := "x", type := 2, offset := 0, embedded := false, tag := "", pkgPath := "runtime", byteOffset := 0 }, { name := "y", type := 3, offset := 1, embedded := false, tag := "", pkgPath := "runtime", byteOffset := 8 }, { name := "signed", type := 4, offset := 2, embedded := false, tag := "", pkgPath := "runtime", byteOffset := 16 }, { name := "code", type := 6, offset := 3, embedded := false, tag := "", pkgPath := "runtime", byteOffset := 17 }]) by kernel_rfl)⟩
theorem inf.runtime_boundsError : P.info? 8 = some Try.t8 := by kernel_rfl
abbrev ty.string : Nat := 9
theorem und.string : P.underlying 9 = some (TypeDesc.string) := by kernel_rfl
theorem inf.string : P.info? 9 = some Try.t9 := by kernel_rfl
abbrev ty.runtime_errorString : Nat := 10
theorem und.runtime_errorString : P.underlying 10 = some (TypeDesc.string) := by kernel_rfl
theorem inf.runtime_errorString : P.info? 10 = some Try.t10 := by kernel_rfl
abbrev ty.runtime_plainError : Nat := 11
theorem und.runtime_plainError : P.underlying 11 = some (TypeDesc.string) := by kernel_rfl
theorem inf.runtime_plainError : P.info? 11 = some Try.t11 := by kernel_rfl
abbrev ty.uintptr : Nat := 12
theorem und.uintptr : P.underlying 12 = some (TypeDesc.int IntKind.u64) := by kernel_rfl
theorem inf.uintptr : P.info? 12 = some Try.t12 := by kernel_rfl
abbrev ty.runtime_errorAddressString : Nat := 14
theorem und.runtime_errorAddressString : (∃ fs, P.underlying 14 = some (.struct fs)) := ⟨_, (show P.underlying 14 = some (TypeDesc.struct #[{ name := "msg", type := 9, offset := 0, embedded := false, tag := "", pkgPath := "runtime", byteOffset := 0 }, { name := "addr", type := 12, offset := 1, embedded := false, tag := "", pkgPath := "runtime", byteOffset := 16 }]) by kernel_rfl)⟩
theorem inf.runtime_errorAddressString : P.info? 14 = some Try.t14 := by kernel_rfl
abbrev ty.p_runtime_TypeAssertionError : Nat := 15
theorem und.p_runtime_TypeAssertionError : P.underlying 15 = some (TypeDesc.pointer 158) := by kernel_rfl
theorem inf.p_runtime_TypeAssertionError : P.info? 15 = some Try.t15 := by kernel_rfl
abbrev ty.p_runtime_PanicNilError : Nat := 16
theorem und.p_runtime_PanicNilError : P.underlying 16 = some (TypeDesc.pointer 161) := by kernel_rfl
theorem inf.p_runtime_PanicNilError : P.info? 16 = some Try.t16 := by kernel_rfl
abbrev ty.p_internal_abi_Type : Nat := 17
theorem und.p_internal_abi_Type : P.underlying 17 = some (TypeDesc.pointer 169) := by kernel_rfl
theorem inf.p_internal_abi_Type : P.info? 17 = some Try.t17 := by kernel_rfl
abbrev ty.internal_runtime_maps_unhashableTypeError : Nat := 19
theorem und.internal_runtime_maps_unhashableTypeError : (∃ fs, P.underlying 19 = some (.struct fs)) := ⟨_, (show P.underlying 19 = some (TypeDesc.struct #[{ name := "typ", type := 17, offset := 0, embedded := false, tag := "", pkgPath := "internal/runtime/maps", byteOffset := 0 }]) by kernel_rfl)⟩
theorem inf.internal_runtime_maps_unhashableTypeError : P.info? 19 = some Try.t19 := by kernel_rfl
abbrev ty.int32 : Nat := 21
theorem und.int32 : P.underlying 21 = some (TypeDesc.int IntKind.i32) := by kernel_rfl
theorem inf.int32 : P.info? 21 = some Try.t21 := by kernel_rfl
abbrev ty.s_uint8 : Nat := 22
theorem und.s_uint8 : P.underlying 22 = some (TypeDesc.slice 5) := by kernel_rfl
theorem inf.s_uint8 : P.info? 22 = some Try.t22 := by kernel_rfl
abbrev ty.p_disk_Disk : Nat := 23
theorem und.p_disk_Disk : P.underlying 23 = some (TypeDesc.pointer 81) := by kernel_rfl
theorem inf.p_disk_Disk : P.info? 23 = some Try.t23 := by kernel_rfl
abbrev ty.s_string : Nat := 34
theorem und.s_string : P.underlying 34 = some (TypeDesc.slice 9) := by kernel_rfl
theorem inf.s_string : P.info? 34 = some Try.t34 := by kernel_rfl
abbrev ty.uint : Nat := 35
theorem und.uint : P.underlying 35 = some (TypeDesc.int IntKind.u64) := by kernel_rfl
theorem inf.uint : P.info? 35 = some Try.t35 := by kernel_rfl
abbrev ty.s_law5_Op : Nat := 39
theorem und.s_law5_Op : P.underlying 39 = some (TypeDesc.slice 45) := by kernel_rfl
theorem inf.s_law5_Op : P.info? 39 = some Try.t39 := by kernel_rfl
abbrev ty.p_ref5_D : Nat := 40
theorem und.p_ref5_D : P.underlying 40 = some (TypeDesc.pointer 43) := by kernel_rfl
theorem inf.p_ref5_D : P.info? 40 = some Try.t40 := by kernel_rfl
abbrev ty.s_ref5_File : Nat := 41
theorem und.s_ref5_File : P.underlying 41 = some (TypeDesc.slice 76) := by kernel_rfl
theorem inf.s_ref5_File : P.info? 41 = some Try.t41 := by kernel_rfl
abbrev ty.ref5_D : Nat := 43
theorem und.ref5_D : (∃ fs, P.underlying 43 = some (.struct fs)) := ⟨_, (show P.underlying 43 = some (TypeDesc.struct #[{ name := "Room", type := 3, offset := 0, embedded := false, tag := "", pkgPath := "", byteOffset := 0 }, { name := "Files", type := 41, offset := 1, embedded := false, tag := "", pkgPath := "", byteOffset := 8 }]) by kernel_rfl)⟩
theorem inf.ref5_D : P.info? 43 = some Try.t43 := by kernel_rfl
abbrev ty.law5_Op : Nat := 45
theorem und.law5_Op : (∃ fs, P.underlying 45 = some (.struct fs)) := ⟨_, (show P.underlying 45 = some (TypeDesc.struct #[{ name := "Kind", type := 3, offset := 0, embedded := false, tag := "", pkgPath := "", byteOffset := 0 }, { name := "N", type := 3, offset := 1, embedded := false, tag := "", pkgPath := "", byteOffset := 8 }, { name := "Name", type := 9, offset := 2, embedded := false, tag := "", pkgPath := "", byteOffset := 16 }, { name := "To", type := 9, offset := 3, embedded := false, tag := "", pkgPath := "", byteOffset := 32 }, { name := "B", type := 22, offset := 4, embedded := false, tag := "", pkgPath := "", byteOffset := 48 }]) by kernel_rfl)⟩
theorem inf.law5_Op : P.info? 45 = some Try.t45 := by kernel_rfl
abbrev ty.s_law6_Op : Nat := 52
theorem und.s_law6_Op : P.underlying 52 = some (TypeDesc.slice 58) := by kernel_rfl
theorem inf.s_law6_Op : P.info? 52 = some Try.t52 := by kernel_rfl
abbrev ty.p_seal_Log : Nat := 53
theorem und.p_seal_Log : P.underlying 53 = some (TypeDesc.pointer 99) := by kernel_rfl
theorem inf.p_seal_Log : P.info? 53 = some Try.t53 := by kernel_rfl
abbrev ty.s_s_uint8 : Nat := 54
theorem und.s_s_uint8 : P.underlying 54 = some (TypeDesc.slice 22) := by kernel_rfl
theorem inf.s_s_uint8 : P.info? 54 = some Try.t54 := by kernel_rfl
abbrev ty.law6_Op : Nat := 58
theorem und.law6_Op : (∃ fs, P.underlying 58 = some (.struct fs)) := ⟨_, (show P.underlying 58 = some (TypeDesc.struct #[{ name := "Kind", type := 3, offset := 0, embedded := false, tag := "", pkgPath := "", byteOffset := 0 }, { name := "N", type := 3, offset := 1, embedded := false, tag := "", pkgPath := "", byteOffset := 8 }, { name := "B", type := 22, offset := 2, embedded := false, tag := "", pkgPath := "", byteOffset := 16 }, { name := "L", type := 54, offset := 3, embedded := false, tag := "", pkgPath := "", byteOffset := 40 }]) by kernel_rfl)⟩
theorem inf.law6_Op : P.info? 58 = some Try.t58 := by kernel_rfl
abbrev ty.s_int : Nat := 67
theorem und.s_int : P.underlying 67 = some (TypeDesc.slice 3) := by kernel_rfl
theorem inf.s_int : P.info? 67 = some Try.t67 := by kernel_rfl
abbrev ty.p_ref5_L : Nat := 69
theorem und.p_ref5_L : P.underlying 69 = some (TypeDesc.pointer 74) := by kernel_rfl
theorem inf.p_ref5_L : P.info? 69 = some Try.t69 := by kernel_rfl
abbrev ty.ref5_L : Nat := 74
theorem und.ref5_L : (∃ fs, P.underlying 74 = some (.struct fs)) := ⟨_, (show P.underlying 74 = some (TypeDesc.struct #[{ name := "D", type := 40, offset := 0, embedded := false, tag := "", pkgPath := "", byteOffset := 0 }, { name := "Gen", type := 2, offset := 1, embedded := false, tag := "", pkgPath := "", byteOffset := 8 }, { name := "N", type := 3, offset := 2, embedded := false, tag := "", pkgPath := "", byteOffset := 16 }, { name := "Empty", type := 4, offset := 3, embedded := false, tag := "", pkgPath := "", byteOffset := 24 }]) by kernel_rfl)⟩
theorem inf.ref5_L : P.info? 74 = some Try.t74 := by kernel_rfl
abbrev ty.ref5_File : Nat := 76
theorem und.ref5_File : (∃ fs, P.underlying 76 = some (.struct fs)) := ⟨_, (show P.underlying 76 = some (TypeDesc.struct #[{ name := "Name", type := 9, offset := 0, embedded := false, tag := "", pkgPath := "", byteOffset := 0 }, { name := "S", type := 9, offset := 1, embedded := false, tag := "", pkgPath := "", byteOffset := 16 }, { name := "Sync", type := 3, offset := 2, embedded := false, tag := "", pkgPath := "", byteOffset := 32 }]) by kernel_rfl)⟩
theorem inf.ref5_File : P.info? 76 = some Try.t76 := by kernel_rfl
abbrev ty.m_string_p_disk_file : Nat := 79
theorem und.m_string_p_disk_file : P.underlying 79 = some (TypeDesc.map 9 83) := by kernel_rfl
theorem inf.m_string_p_disk_file : P.info? 79 = some Try.t79 := by kernel_rfl
abbrev ty.disk_Disk : Nat := 81
theorem und.disk_Disk : (∃ fs, P.underlying 81 = some (.struct fs)) := ⟨_, (show P.underlying 81 = some (TypeDesc.struct #[{ name := "files", type := 79, offset := 0, embedded := false, tag := "", pkgPath := "sojourn/disk", byteOffset := 0 }, { name := "room", type := 3, offset := 1, embedded := false, tag := "", pkgPath := "sojourn/disk", byteOffset := 8 }]) by kernel_rfl)⟩
theorem inf.disk_Disk : P.info? 81 = some Try.t81 := by kernel_rfl
abbrev ty.p_disk_file : Nat := 83
theorem und.p_disk_file : P.underlying 83 = some (TypeDesc.pointer 85) := by kernel_rfl
theorem inf.p_disk_file : P.info? 83 = some Try.t83 := by kernel_rfl
abbrev ty.disk_file : Nat := 85
theorem und.disk_file : (∃ fs, P.underlying 85 = some (.struct fs)) := ⟨_, (show P.underlying 85 = some (TypeDesc.struct #[{ name := "b", type := 22, offset := 0, embedded := false, tag := "", pkgPath := "sojourn/disk", byteOffset := 0 }, { name := "synced", type := 3, offset := 1, embedded := false, tag := "", pkgPath := "sojourn/disk", byteOffset := 24 }]) by kernel_rfl)⟩
theorem inf.disk_file : P.info? 85 = some Try.t85 := by kernel_rfl
abbrev ty.iter_Seq_string : Nat := 90
theorem und.iter_Seq_string : P.underlying 90 = some (TypeDesc.func #[82] #[] false) := by kernel_rfl
theorem inf.iter_Seq_string : P.info? 90 = some Try.t90 := by kernel_rfl
abbrev ty.seal_kept_s_byte : Nat := 95
theorem und.seal_kept_s_byte : (∃ fs, P.underlying 95 = some (.struct fs)) := ⟨_, (show P.underlying 95 = some (TypeDesc.struct #[{ name := "age", type := 2, offset := 0, embedded := false, tag := "", pkgPath := "sojourn/seal", byteOffset := 0 }, { name := "rows", type := 54, offset := 1, embedded := false, tag := "", pkgPath := "sojourn/seal", byteOffset := 8 }]) by kernel_rfl)⟩
theorem inf.seal_kept_s_byte : P.info? 95 = some Try.t95 := by kernel_rfl
abbrev ty.seal_Log : Nat := 99
theorem und.seal_Log : (∃ fs, P.underlying 99 = some (.struct fs)) := ⟨_, (show P.underlying 99 = some (TypeDesc.struct #[{ name := "d", type := 23, offset := 0, embedded := false, tag := "", pkgPath := "sojourn/seal", byteOffset := 0 }, { name := "age", type := 2, offset := 1, embedded := false, tag := "", pkgPath := "sojourn/seal", byteOffset := 8 }, { name := "n", type := 3, offset := 2, embedded := false, tag := "", pkgPath := "sojourn/seal", byteOffset := 16 }]) by kernel_rfl)⟩
theorem inf.seal_Log : P.info? 99 = some Try.t99 := by kernel_rfl
abbrev ty.uint32 : Nat := 111
theorem und.uint32 : P.underlying 111 = some (TypeDesc.int IntKind.u32) := by kernel_rfl
theorem inf.uint32 : P.info? 111 = some Try.t111 := by kernel_rfl
abbrev ty.pack_Writer : Nat := 114
theorem und.pack_Writer : (∃ fs, P.underlying 114 = some (.struct fs)) := ⟨_, (show P.underlying 114 = some (TypeDesc.struct #[{ name := "b", type := 22, offset := 0, embedded := false, tag := "", pkgPath := "sojourn/pack", byteOffset := 0 }]) by kernel_rfl)⟩
theorem inf.pack_Writer : P.info? 114 = some Try.t114 := by kernel_rfl
abbrev ty.p_ref1_R : Nat := 118
theorem und.p_ref1_R : P.underlying 118 = some (TypeDesc.pointer 120) := by kernel_rfl
theorem inf.p_ref1_R : P.info? 118 = some Try.t118 := by kernel_rfl
abbrev ty.ref1_R : Nat := 120
theorem und.ref1_R : (∃ fs, P.underlying 120 = some (.struct fs)) := ⟨_, (show P.underlying 120 = some (TypeDesc.struct #[{ name := "S", type := 9, offset := 0, embedded := false, tag := "", pkgPath := "", byteOffset := 0 }, { name := "Bad", type := 4, offset := 1, embedded := false, tag := "", pkgPath := "", byteOffset := 16 }]) by kernel_rfl)⟩
theorem inf.ref1_R : P.info? 120 = some Try.t120 := by kernel_rfl
abbrev ty.uint64 : Nat := 123
theorem und.uint64 : P.underlying 123 = some (TypeDesc.int IntKind.u64) := by kernel_rfl
theorem inf.uint64 : P.info? 123 = some Try.t123 := by kernel_rfl
abbrev ty.p_pack_Reader : Nat := 128
theorem und.p_pack_Reader : P.underlying 128 = some (TypeDesc.pointer 141) := by kernel_rfl
theorem inf.p_pack_Reader : P.info? 128 = some Try.t128 := by kernel_rfl
abbrev ty.p_pack_Writer : Nat := 130
theorem und.p_pack_Writer : P.underlying 130 = some (TypeDesc.pointer 114) := by kernel_rfl
theorem inf.p_pack_Writer : P.info? 130 = some Try.t130 := by kernel_rfl
abbrev ty.slices_sortedHint : Nat := 132
theorem und.slices_sortedHint : P.underlying 132 = some (TypeDesc.int IntKind.i64) := by kernel_rfl
theorem inf.slices_sortedHint : P.info? 132 = some Try.t132 := by kernel_rfl
abbrev ty.pack_Reader : Nat := 141
theorem und.pack_Reader : (∃ fs, P.underlying 141 = some (.struct fs)) := ⟨_, (show P.underlying 141 = some (TypeDesc.struct #[{ name := "b", type := 22, offset := 0, embedded := false, tag := "", pkgPath := "sojourn/pack", byteOffset := 0 }, { name := "wrong", type := 4, offset := 1, embedded := false, tag := "", pkgPath := "sojourn/pack", byteOffset := 24 }]) by kernel_rfl)⟩
theorem inf.pack_Reader : P.info? 141 = some Try.t141 := by kernel_rfl
abbrev ty.slices_xorshift : Nat := 146
theorem und.slices_xorshift : P.underlying 146 = some (TypeDesc.int IntKind.u64) := by kernel_rfl
theorem inf.slices_xorshift : P.info? 146 = some Try.t146 := by kernel_rfl
abbrev ty.p_int : Nat := 150
theorem und.p_int : P.underlying 150 = some (TypeDesc.pointer 3) := by kernel_rfl
theorem inf.p_int : P.info? 150 = some Try.t150 := by kernel_rfl
abbrev ty.p_slices_xorshift : Nat := 153
theorem und.p_slices_xorshift : P.underlying 153 = some (TypeDesc.pointer 146) := by kernel_rfl
theorem inf.p_slices_xorshift : P.info? 153 = some Try.t153 := by kernel_rfl
abbrev ty.runtime_TypeAssertionError : Nat := 158
theorem und.runtime_TypeAssertionError : (∃ fs, P.underlying 158 = some (.struct fs)) := ⟨_, (show P.underlying 158 = some (TypeDesc.struct #[{ name := "_interface", type := 17, offset := 0, embedded := false, tag := "", pkgPath := "runtime", byteOffset := 0 }, { name := "concrete", type := 17, offset := 1, embedded := false, tag := "", pkgPath := "runtime", byteOffset := 8 }, { name := "asserted", type := 17, offset := 2, embedded := false, tag := "", pkgPath := "runtime", byteOffset := 16 }, { name := "missingMethod", type := 9, offset := 3, embedded := false, tag := "", pkgPath := "runtime", byteOffset := 24 }]) by kernel_rfl)⟩
theorem inf.runtime_TypeAssertionError : P.info? 158 = some Try.t158 := by kernel_rfl
abbrev ty.a0_p_runtime_PanicNilError : Nat := 159
theorem und.a0_p_runtime_PanicNilError : P.underlying 159 = some (TypeDesc.array 0 16) := by kernel_rfl
theorem inf.a0_p_runtime_PanicNilError : P.info? 159 = some Try.t159 := by kernel_rfl
abbrev ty.runtime_PanicNilError : Nat := 161
theorem und.runtime_PanicNilError : (∃ fs, P.underlying 161 = some (.struct fs)) := ⟨_, (show P.underlying 161 = some (TypeDesc.struct #[{ name := "_", type := 159, offset := 0, embedded := false, tag := "", pkgPath := "runtime", byteOffset := 0 }]) by kernel_rfl)⟩
theorem inf.runtime_PanicNilError : P.info? 161 = some Try.t161 := by kernel_rfl
abbrev ty.internal_abi_TFlag : Nat := 162
theorem und.internal_abi_TFlag : P.underlying 162 = some (TypeDesc.int IntKind.u8) := by kernel_rfl
theorem inf.internal_abi_TFlag : P.info? 162 = some Try.t162 := by kernel_rfl
abbrev ty.internal_abi_Kind : Nat := 163
theorem und.internal_abi_Kind : P.underlying 163 = some (TypeDesc.int IntKind.u8) := by kernel_rfl
theorem inf.internal_abi_Kind : P.info? 163 = some Try.t163 := by kernel_rfl
abbrev ty.p_uint8 : Nat := 165
theorem und.p_uint8 : P.underlying 165 = some (TypeDesc.pointer 5) := by kernel_rfl
theorem inf.p_uint8 : P.info? 165 = some Try.t165 := by kernel_rfl
abbrev ty.internal_abi_NameOff : Nat := 166
theorem und.internal_abi_NameOff : P.underlying 166 = some (TypeDesc.int IntKind.i32) := by kernel_rfl
theorem inf.internal_abi_NameOff : P.info? 166 = some Try.t166 := by kernel_rfl
abbrev ty.internal_abi_TypeOff : Nat := 167
theorem und.internal_abi_TypeOff : P.underlying 167 = some (TypeDesc.int IntKind.i32) := by kernel_rfl
theorem inf.internal_abi_TypeOff : P.info? 167 = some Try.t167 := by kernel_rfl
abbrev ty.internal_abi_Type : Nat := 169
theorem und.internal_abi_Type : (∃ fs, P.underlying 169 = some (.struct fs)) := ⟨_, (show P.underlying 169 = some (TypeDesc.struct #[{ name := "Size_", type := 12, offset := 0, embedded := false, tag := "", pkgPath := "", byteOffset := 0 }, { name := "PtrBytes", type := 12, offset := 1, embedded := false, tag := "", pkgPath := "", byteOffset := 8 }, { name := "Hash", type := 111, offset := 2, embedded := false, tag := "", pkgPath := "", byteOffset := 16 }, { name := "TFlag", type := 162, offset := 3, embedded := false, tag := "", pkgPath := "", byteOffset := 20 }, { name := "Align_", type := 5, offset := 4, embedded := false, tag := "", pkgPath := "", byteOffset := 21 }, { name := "FieldAlign_", type := 5, offset := 5, embedded := false, tag := "", pkgPath := "", byteOffset := 22 }, { name := "Kind_", type := 163, offset := 6, embedded := false, tag := "", pkgPath := "", byteOffset := 23 }, { name := "Equal", type := 164, offset := 7, embedded := false, tag := "", pkgPath := "", byteOffset := 24 }, { name := "GCData", type := 165, offset := 8, embedded := false, tag := "", pkgPath := "", byteOffset := 32 }, { name := "Str", type := 166, offset := 9, embedded := false, tag := "", pkgPath := "", byteOffset := 40 }, { name := "PtrToThis", type := 167, offset := 10, embedded := false, tag := "", pkgPath := "", byteOffset := 44 }]) by kernel_rfl)⟩
theorem inf.internal_abi_Type : P.info? 169 = some Try.t169 := by kernel_rfl
end Go.Proofs.Ytamejkogghpbhaa
end
section
/- Printed by wip/gen/gen.py: the shallow texts of some functions. -/
set_option linter.unusedVariables false
namespace Go.Proofs.Ytamejkogghpbhaa
open Go.Sx

/-! sojourn/pack.Sum: function 66 -/
def pack_Sum_j0 (R : VCont) (v3 : Value) (w : World) : Prop :=
  xUn P .xor v3 w fun t1 w =>
  R t1 w
def pack_Sum_j2 (R : VCont) (X0 : LX) (v3 v9 : Value) (w : World) : Prop :=
  xBin P .add 3 v9 (Value.int IntKind.i64 1) w fun t22 w =>
  X0 [v3, t22] w
def pack_Sum_j4 (R : VCont) (X1 X0 : LX) (v3 v17 : Value) (w : World) : Prop :=
  xBin P .add 3 v17 (Value.int IntKind.i64 1) w fun t34 w =>
  X1 [v3, t34] w
def pack_Sum_l3 (R : VCont) (X1 X0 : LX) (v9 v3 v17 : Value) (w : World) : Prop :=
  xBin P .lss 3 v17 (Value.int IntKind.i64 8) w fun t33 w =>
  xIf t33
  (xBin P .and 111 v3 (Value.int IntKind.u32 1) w fun t35 w =>
  xBin P .shr 111 v3 (Value.int IntKind.u64 1) w fun t36 w =>
  xEq P .eql 111 false true t35 (Value.int IntKind.u32 1) w fun t37 w =>
  xIf t37
  (xBin P .xor 111 t36 (Value.int IntKind.u32 3988292384) w fun t38 w =>
  pack_Sum_j4 R X1 X0 t38 v17 w)
  (pack_Sum_j4 R X1 X0 t36 v17 w))
  (pack_Sum_j2 R X0 v3 v9 w)
def pack_Sum_l1 (R : VCont) (X0 : LX) (v7 v8 v3 v9 : Value) (w : World) : Prop :=
  xBin P .lss 3 v9 v8 w fun t21 w =>
  xIf t21
  (xIndexAddr P 22 v7 v9 w fun t23 w =>
  xLoad1 t23 w fun t24 w =>
  xConvK P .pure 5 111 t24 w fun t25 w =>
  xBin P .xor 111 v3 t25 w fun t26 w =>
  Lp (fun X s w => pack_Sum_l3 R X X0 v9 (s.getD 0 undef) (s.getD 1 undef) w) [t26, (Value.int IntKind.i64 0)] w)
  (pack_Sum_j0 R v3 w)
def pack_Sum_main (R : VCont) (a0 : Value) (w : World) : Prop :=
  xLen P .pure #[22] a0 w fun t2 w =>
  Lp (fun X s w => pack_Sum_l1 R X a0 t2 (s.getD 0 undef) (s.getD 1 undef) w) [(Value.int IntKind.u32 4294967295), (Value.int IntKind.i64 0)] w
def pack_Sum_es (R : VCont) : List Ent := [
  .join fun Xs e w => pack_Sum_j0 R (e 3) w,
  .loop [7, 8] [3, 9] fun Xs fx X s w => pack_Sum_l1 R X (fx.getD 0 undef) (fx.getD 1 undef) (s.getD 0 undef) (s.getD 1 undef) w,
  .join fun Xs e w => pack_Sum_j2 R (hx Xs) (e 3) (e 9) w,
  .loop [9] [3, 17] fun Xs fx X s w => pack_Sum_l3 R X (hx Xs) (fx.getD 0 undef) (s.getD 0 undef) (s.getD 1 undef) w,
  .join fun Xs e w => pack_Sum_j4 R (hx Xs) (hx (Xs.drop 1)) (e 3) (e 17) w]
theorem pack_Sum_ok {R : VCont} {a0 : Value} {w : World} (h : pack_Sum_main R a0 w) : Calls P nr.pack_Sum [a0].toArray w (Ret R) :=
  calls_of_sx (P := P) (fn := Try.f66) (Os := (fun _ => .no)) (Es := (pack_Sum_es R)) (args := [a0]) mixed (by kernel_rfl) (by kernel_rfl) (by kernel_rfl) (by kernel_rfl) (by kernel_rfl) (by kernel_rfl) (by kernel_rfl)
    (Eq.mp (show pack_Sum_main R a0 w = sxh P (fun _ => .no) (pack_Sum_es R) [] 0 (bodyOf Try.f66) (retQ P Try.f66.results.toList R) (envOf [a0]) w by kernel_rfl) h)
theorem pack_Sum_call {R : VCont} {a0 : Value} {w : World} (h : pack_Sum_main R a0 w) : xCall P nr.pack_Sum [a0] w R :=
  xCall_of (P := P) (fn := Try.f66) (by kernel_rfl) (by kernel_rfl) (by kernel_rfl) (pack_Sum_ok h)

/-! (*sojourn/pack.Writer).Int: function 67 -/
def pack_Writer_Int_j0 (R : VCont) (v0 v4 : Value) (w : World) : Prop :=
  xNil v0 w fun t7 w =>
  xOff (some 0) t7 w fun t8 w =>
  xLoad1 t8 w fun t9 w =>
  xConvK P .pure 123 5 v4 w fun t10 w =>
  xBuildSlice P 22 1 [(0, t10)] w fun t11 w =>
  xBuiltin P .append #[22, 22] 22 [false, false] [t9, t11] w fun t12 w =>
  xNil v0 w fun t13 w =>
  xOff (some 0) t13 w fun t14 w =>
  xStore P 22 t14 t12 w fun _ w =>
  R (Value.tuple #[]) w
def pack_Writer_Int_l1 (R : VCont) (X0 : LX) (v0 v4 : Value) (w : World) : Prop :=
  xBin P .geq 123 v4 (Value.int IntKind.u64 128) w fun t26 w =>
  xIf t26
  (xNil v0 w fun t27 w =>
  xOff (some 0) t27 w fun t28 w =>
  xLoad1 t28 w fun t29 w =>
  xConvK P .pure 123 5 v4 w fun t30 w =>
  xBin P .or 5 t30 (Value.int IntKind.u8 128) w fun t31 w =>
  xBuildSlice P 22 1 [(0, t31)] w fun t32 w =>
  xBuiltin P .append #[22, 22] 22 [false, false] [t29, t32] w fun t33 w =>
  xNil v0 w fun t34 w =>
  xOff (some 0) t34 w fun t35 w =>
  xStore P 22 t35 t33 w fun _ w =>
  xBin P .shr 123 v4 (Value.int IntKind.u64 7) w fun t36 w =>
  X0 [t36] w)
  (pack_Writer_Int_j0 R v0 v4 w)
def pack_Writer_Int_main (R : VCont) (a0 a1 : Value) (w : World) : Prop :=
  xEq P .eql 130 false true a0 (Value.pointer none) w fun t1 w =>
  xIf t1
  (R (Value.tuple #[]) w)
  (xConvK P .pure 2 123 a1 w fun t2 w =>
  xBin P .shl 123 t2 (Value.int IntKind.u64 1) w fun t3 w =>
  xBin P .shr 2 a1 (Value.int IntKind.u64 63) w fun t4 w =>
  xConvK P .pure 2 123 t4 w fun t5 w =>
  xBin P .xor 123 t3 t5 w fun t6 w =>
  Lp (fun X s w => pack_Writer_Int_l1 R X a0 (s.getD 0 undef) w) [t6] w)
def pack_Writer_Int_es (R : VCont) : List Ent := [
  .join fun Xs e w => pack_Writer_Int_j0 R (e 0) (e 4) w,
  .loop [0] [4] fun Xs fx X s w => pack_Writer_Int_l1 R X (fx.getD 0 undef) (s.getD 0 undef) w]
theorem pack_Writer_Int_ok {R : VCont} {a0 a1 : Value} {w : World} (h : pack_Writer_Int_main R a0 a1 w) : Calls P nr.pack_Writer_Int [a0, a1].toArray w (Ret R) :=
  calls_of_sx (P := P) (fn := Try.f67) (Os := (fun _ => .no)) (Es := (pack_Writer_Int_es R)) (args := [a0, a1]) mixed (by kernel_rfl) (by kernel_rfl) (by kernel_rfl) (by kernel_rfl) (by kernel_rfl) (by kernel_rfl) (by kernel_rfl)
    (Eq.mp (show pack_Writer_Int_main R a0 a1 w = sxh P (fun _ => .no) (pack_Writer_Int_es R) [] 0 (bodyOf Try.f67) (retQ P Try.f67.results.toList R) (envOf [a0, a1]) w by kernel_rfl) h)
theorem pack_Writer_Int_call {R : VCont} {a0 a1 : Value} {w : World} (h : pack_Writer_Int_main R a0 a1 w) : xCall P nr.pack_Writer_Int [a0, a1] w R :=
  xCall_of (P := P) (fn := Try.f67) (by kernel_rfl) (by kernel_rfl) (by kernel_rfl) (pack_Writer_Int_ok h)

/-! (*sojourn/pack.Writer).Bytes: function 68 -/
def pack_Writer_Bytes_main (R : VCont) (a0 : Value) (w : World) : Prop :=
  xEq P .eql 130 false true a0 (Value.pointer none) w fun t1 w =>
  xIf t1
  (R (Value.slice none 0 0) w)
  (xBuildSlice P 22 0 [] w fun t2 w =>
  xNil a0 w fun t3 w =>
  xOff (some 0) t3 w fun t4 w =>
  xLoad1 t4 w fun t5 w =>
  xBuiltin P .append #[22, 22] 22 [false, false] [t2, t5] w fun t6 w =>
  R t6 w)
theorem pack_Writer_Bytes_ok {R : VCont} {a0 : Value} {w : World} (h : pack_Writer_Bytes_main R a0 w) : Calls P nr.pack_Writer_Bytes [a0].toArray w (Ret R) :=
  calls_of_sx (P := P) (fn := Try.f68) (Os := (fun _ => .no)) (Es := []) (args := [a0]) mixed (by kernel_rfl) (by kernel_rfl) (by kernel_rfl) (by kernel_rfl) (by kernel_rfl) (by kernel_rfl) (by kernel_rfl)
    (Eq.mp (show pack_Writer_Bytes_main R a0 w = sxh P (fun _ => .no) [] [] 0 (bodyOf Try.f68) (retQ P Try.f68.results.toList R) (envOf [a0]) w by kernel_rfl) h)
theorem pack_Writer_Bytes_call {R : VCont} {a0 : Value} {w : World} (h : pack_Writer_Bytes_main R a0 w) : xCall P nr.pack_Writer_Bytes [a0] w R :=
  xCall_of (P := P) (fn := Try.f68) (by kernel_rfl) (by kernel_rfl) (by kernel_rfl) (pack_Writer_Bytes_ok h)

/-! sojourn/pack.New: function 78 -/
def pack_New_main (R : VCont) (a0 : Value) (w : World) : Prop :=
  xBuildSlice P 22 0 [] w fun t1 w =>
  xBuiltin P .append #[22, 22] 22 [false, false] [t1, a0] w fun t2 w =>
  xBuild P 141 [(0, t2)] w fun t3 w =>
  xBox P 141 t3 w fun t4 w =>
  R t4 w
theorem pack_New_ok {R : VCont} {a0 : Value} {w : World} (h : pack_New_main R a0 w) : Calls P nr.pack_New [a0].toArray w (Ret R) :=
  calls_of_sx (P := P) (fn := Try.f78) (Os := (fun _ => .no)) (Es := []) (args := [a0]) mixed (by kernel_rfl) (by kernel_rfl) (by kernel_rfl) (by kernel_rfl) (by kernel_rfl) (by kernel_rfl) (by kernel_rfl)
    (Eq.mp (show pack_New_main R a0 w = sxh P (fun _ => .no) [] [] 0 (bodyOf Try.f78) (retQ P Try.f78.results.toList R) (envOf [a0]) w by kernel_rfl) h)
theorem pack_New_call {R : VCont} {a0 : Value} {w : World} (h : pack_New_main R a0 w) : xCall P nr.pack_New [a0] w R :=
  xCall_of (P := P) (fn := Try.f78) (by kernel_rfl) (by kernel_rfl) (by kernel_rfl) (pack_New_ok h)

/-! (*sojourn/pack.Reader).Int: function 79 -/
def pack_Reader_Int_main (R : VCont) (a0 a1 a2 : Value) (w : World) : Prop :=
  xBox P 2 a1 w fun t1 w =>
  xBox P 2 a2 w fun t2 w =>
  xCall P nr.pack_take_int64 [a0, (Value.func (.func nr.pack_Reader_Int_c1) #[] #[t1, t2])] w fun t3 w =>
  R t3 w
theorem pack_Reader_Int_ok {R : VCont} {a0 a1 a2 : Value} {w : World} (h : pack_Reader_Int_main R a0 a1 a2 w) : Calls P nr.pack_Reader_Int [a0, a1, a2].toArray w (Ret R) :=
  calls_of_sx (P := P) (fn := Try.f79) (Os := (fun _ => .no)) (Es := []) (args := [a0, a1, a2]) mixed (by kernel_rfl) (by kernel_rfl) (by kernel_rfl) (by kernel_rfl) (by kernel_rfl) (by kernel_rfl) (by kernel_rfl)
    (Eq.mp (show pack_Reader_Int_main R a0 a1 a2 w = sxh P (fun _ => .no) [] [] 0 (bodyOf Try.f79) (retQ P Try.f79.results.toList R) (envOf [a0, a1, a2]) w by kernel_rfl) h)
theorem pack_Reader_Int_call {R : VCont} {a0 a1 a2 : Value} {w : World} (h : pack_Reader_Int_main R a0 a1 a2 w) : xCall P nr.pack_Reader_Int [a0, a1, a2] w R :=
  xCall_of (P := P) (fn := Try.f79) (by kernel_rfl) (by kernel_rfl) (by kernel_rfl) (pack_Reader_Int_ok h)

/-! (*sojourn/pack.Reader).Int$1: function 94 -/
def pack_Reader_Int_c1_main (R : VCont) (a0 a1 a2 : Value) (w : World) : Prop :=
  xCall P nr.pack_groups [a0] w fun t1 w =>
  xExtract t1 0 w fun t2 w =>
  xExtract t1 1 w fun t3 w =>
  xBin P .shr 123 t2 (Value.int IntKind.u64 1) w fun t4 w =>
  xConvK P .pure 123 2 t4 w fun t5 w =>
  xBin P .and 123 t2 (Value.int IntKind.u64 1) w fun t6 w =>
  xConvK P .pure 123 2 t6 w fun t7 w =>
  xUn P .neg t7 w fun t8 w =>
  xBin P .xor 2 t5 t8 w fun t9 w =>
  xLoad1 a1 w fun t10 w =>
  xBin P .lss 2 t9 t10 w fun t11 w =>
  xWhen t11 false (fun K => K t9 w) w fun t12 w =>
  xWhen t11 false (fun K => xLoad1 a2 w K) w fun t13 w =>
  xWhen t11 false (fun K => xBin P .gtr 2 t12 t13 w K) w fun t14 w =>
  xPick t11 (Value.bool true) t14 w fun t15 w =>
  xIf t15
  (R (Value.tuple #[(Value.int IntKind.i64 0), (Value.int IntKind.i64 0)]) w)
  (R (Value.tuple #[t9, t3]) w)
theorem pack_Reader_Int_c1_ok {R : VCont} {a0 a1 a2 : Value} {w : World} (h : pack_Reader_Int_c1_main R a0 a1 a2 w) : Calls P nr.pack_Reader_Int_c1 [a0, a1, a2].toArray w (Ret R) :=
  calls_of_sx (P := P) (fn := Try.f94) (Os := (fun _ => .no)) (Es := []) (args := [a0, a1, a2]) mixed (by kernel_rfl) (by kernel_rfl) (by kernel_rfl) (by kernel_rfl) (by kernel_rfl) (by kernel_rfl) (by kernel_rfl)
    (Eq.mp (show pack_Reader_Int_c1_main R a0 a1 a2 w = sxh P (fun _ => .no) [] [] 0 (bodyOf Try.f94) (retQ P Try.f94.results.toList R) (envOf [a0, a1, a2]) w by kernel_rfl) h)
theorem pack_Reader_Int_c1_call {R : VCont} {a0 a1 a2 : Value} {w : World} (h : pack_Reader_Int_c1_main R a0 a1 a2 w) : xCall P nr.pack_Reader_Int_c1 [a0, a1, a2] w R :=
  xCall_of (P := P) (fn := Try.f94) (by kernel_rfl) (by kernel_rfl) (by kernel_rfl) (pack_Reader_Int_c1_ok h)

/-! (*sojourn/pack.Reader).End: function 80 -/
def pack_Reader_End_main (R : VCont) (a0 : Value) (w : World) : Prop :=
  xEq P .eql 128 false true a0 (Value.pointer none) w fun t1 w =>
  xWhen t1 false (fun K => K a0 w) w fun t2 w =>
  xWhen t1 false (fun K => xNil t2 w K) w fun t3 w =>
  xWhen t1 false (fun K => xOff (some 1) t3 w K) w fun t4 w =>
  xWhen t1 false (fun K => xLoad1 t4 w K) w fun t5 w =>
  xPick t1 (Value.bool true) t5 w fun t6 w =>
  xIf t6
  (R (Value.int IntKind.i64 2) w)
  (xNil a0 w fun t7 w =>
  xOff (some 0) t7 w fun t8 w =>
  xLoad1 t8 w fun t9 w =>
  xLen P .pure #[22] t9 w fun t10 w =>
  xBin P .gtr 3 t10 (Value.int IntKind.i64 0) w fun t11 w =>
  xIf t11
  (R (Value.int IntKind.i64 3) w)
  (R (Value.int IntKind.i64 0) w))
theorem pack_Reader_End_ok {R : VCont} {a0 : Value} {w : World} (h : pack_Reader_End_main R a0 w) : Calls P nr.pack_Reader_End [a0].toArray w (Ret R) :=
  calls_of_sx (P := P) (fn := Try.f80) (Os := (fun _ => .no)) (Es := []) (args := [a0]) mixed (by kernel_rfl) (by kernel_rfl) (by kernel_rfl) (by kernel_rfl) (by kernel_rfl) (by kernel_rfl) (by kernel_rfl)
    (Eq.mp (show pack_Reader_End_main R a0 w = sxh P (fun _ => .no) [] [] 0 (bodyOf Try.f80) (retQ P Try.f80.results.toList R) (envOf [a0]) w by kernel_rfl) h)
theorem pack_Reader_End_call {R : VCont} {a0 : Value} {w : World} (h : pack_Reader_End_main R a0 w) : xCall P nr.pack_Reader_End [a0] w R :=
  xCall_of (P := P) (fn := Try.f80) (by kernel_rfl) (by kernel_rfl) (by kernel_rfl) (pack_Reader_End_ok h)

/-! sojourn/pack.take[int64]: function 93 -/
def pack_take_int64_main (R : VCont) (a0 a1 : Value) (w : World) : Prop :=
  xEq P .eql 128 false true a0 (Value.pointer none) w fun t1 w =>
  xWhen t1 false (fun K => K a0 w) w fun t2 w =>
  xWhen t1 false (fun K => xNil t2 w K) w fun t3 w =>
  xWhen t1 false (fun K => xOff (some 1) t3 w K) w fun t4 w =>
  xWhen t1 false (fun K => xLoad1 t4 w K) w fun t5 w =>
  xPick t1 (Value.bool true) t5 w fun t6 w =>
  xIf t6
  (R (Value.int IntKind.i64 0) w)
  (xNil a0 w fun t7 w =>
  xOff (some 0) t7 w fun t8 w =>
  xLoad1 t8 w fun t9 w =>
  xCallV P a1 [t9] w fun t10 w =>
  xExtract t10 0 w fun t11 w =>
  xExtract t10 1 w fun t12 w =>
  xBin P .lss 3 t12 (Value.int IntKind.i64 1) w fun t13 w =>
  xIf t13
  (xNil a0 w fun t14 w =>
  xOff (some 1) t14 w fun t15 w =>
  xStore P 4 t15 (Value.bool true) w fun _ w =>
  R (Value.int IntKind.i64 0) w)
  (xNil a0 w fun t16 w =>
  xOff (some 0) t16 w fun t17 w =>
  xLoad1 t17 w fun t18 w =>
  xSlice P 22 t18 (some t12) none none w fun t19 w =>
  xNil a0 w fun t20 w =>
  xOff (some 0) t20 w fun t21 w =>
  xStore P 22 t21 t19 w fun _ w =>
  R t11 w))
theorem pack_take_int64_ok {R : VCont} {a0 a1 : Value} {w : World} (h : pack_take_int64_main R a0 a1 w) : Calls P nr.pack_take_int64 [a0, a1].toArray w (Ret R) :=
  calls_of_sx (P := P) (fn := Try.f93) (Os := (fun _ => .no)) (Es := []) (args := [a0, a1]) mixed (by kernel_rfl) (by kernel_rfl) (by kernel_rfl) (by kernel_rfl) (by kernel_rfl) (by kernel_rfl) (by kernel_rfl)
    (Eq.mp (show pack_take_int64_main R a0 a1 w = sxh P (fun _ => .no) [] [] 0 (bodyOf Try.f93) (retQ P Try.f93.results.toList R) (envOf [a0, a1]) w by kernel_rfl) h)
theorem pack_take_int64_call {R : VCont} {a0 a1 : Value} {w : World} (h : pack_take_int64_main R a0 a1 w) : xCall P nr.pack_take_int64 [a0, a1] w R :=
  xCall_of (P := P) (fn := Try.f93) (by kernel_rfl) (by kernel_rfl) (by kernel_rfl) (pack_take_int64_ok h)

/-! sojourn/pack.groups: function 95 -/
def pack_groups_j0 (R : VCont) (w : World) : Prop :=
  R (Value.tuple #[(Value.int IntKind.u64 0), (Value.int IntKind.i64 0)]) w
def pack_groups_l1 (R : VCont) (X0 : LX) (v0 v9 v4 v10 : Value) (w : World) : Prop :=
  xBin P .lss 3 v10 v9 w fun t23 w =>
  xIf t23
  (xIndexAddr P 22 v0 v10 w fun t24 w =>
  xLoad1 t24 w fun t25 w =>
  xEq P .eql 3 false true v10 (Value.int IntKind.i64 9) w fun t26 w =>
  xWhen t26 true (fun K => K t25 w) w fun t27 w =>
  xWhen t26 true (fun K => xBin P .gtr 5 t27 (Value.int IntKind.u8 1) w K) w fun t28 w =>
  xPick t26 t28 (Value.bool false) w fun t29 w =>
  xIf t29
  (R (Value.tuple #[(Value.int IntKind.u64 0), (Value.int IntKind.i64 0)]) w)
  (xBin P .and 5 t25 (Value.int IntKind.u8 127) w fun t30 w =>
  xConvK P .pure 5 123 t30 w fun t31 w =>
  xBin P .mul 3 (Value.int IntKind.i64 7) v10 w fun t32 w =>
  xConvK P .pure 3 35 t32 w fun t33 w =>
  xBin P .shl 123 t31 t33 w fun t34 w =>
  xBin P .or 123 v4 t34 w fun t35 w =>
  xBin P .lss 5 t25 (Value.int IntKind.u8 128) w fun t36 w =>
  xIf t36
  (xEq P .eql 5 false true t25 (Value.int IntKind.u8 0) w fun t37 w =>
  xWhen t37 true (fun K => K v10 w) w fun t38 w =>
  xWhen t37 true (fun K => xBin P .gtr 3 t38 (Value.int IntKind.i64 0) w K) w fun t39 w =>
  xPick t37 t39 (Value.bool false) w fun t40 w =>
  xIf t40
  (R (Value.tuple #[(Value.int IntKind.u64 0), (Value.int IntKind.i64 0)]) w)
  (xBin P .add 3 v10 (Value.int IntKind.i64 1) w fun t41 w =>
  R (Value.tuple #[t35, t41]) w))
  (xBin P .add 3 v10 (Value.int IntKind.i64 1) w fun t42 w =>
  X0 [t35, t42] w)))
  (pack_groups_j0 R w)
def pack_groups_main (R : VCont) (a0 : Value) (w : World) : Prop :=
  xLen P .pure #[22] a0 w fun t1 w =>
  xMinMax P false [t1, (Value.int IntKind.i64 10)] w fun t2 w =>
  Lp (fun X s w => pack_groups_l1 R X a0 t2 (s.getD 0 undef) (s.getD 1 undef) w) [(Value.int IntKind.u64 0), (Value.int IntKind.i64 0)] w
def pack_groups_es (R : VCont) : List Ent := [
  .join fun Xs e w => pack_groups_j0 R  w,
  .loop [0, 9] [4, 10] fun Xs fx X s w => pack_groups_l1 R X (fx.getD 0 undef) (fx.getD 1 undef) (s.getD 0 undef) (s.getD 1 undef) w]
theorem pack_groups_ok {R : VCont} {a0 : Value} {w : World} (h : pack_groups_main R a0 w) : Calls P nr.pack_groups [a0].toArray w (Ret R) :=
  calls_of_sx (P := P) (fn := Try.f95) (Os := (fun _ => .no)) (Es := (pack_groups_es R)) (args := [a0]) mixed (by kernel_rfl) (by kernel_rfl) (by kernel_rfl) (by kernel_rfl) (by kernel_rfl) (by kernel_rfl) (by kernel_rfl)
    (Eq.mp (show pack_groups_main R a0 w = sxh P (fun _ => .no) (pack_groups_es R) [] 0 (bodyOf Try.f95) (retQ P Try.f95.results.toList R) (envOf [a0]) w by kernel_rfl) h)
theorem pack_groups_call {R : VCont} {a0 : Value} {w : World} (h : pack_groups_main R a0 w) : xCall P nr.pack_groups [a0] w R :=
  xCall_of (P := P) (fn := Try.f95) (by kernel_rfl) (by kernel_rfl) (by kernel_rfl) (pack_groups_ok h)

/-! sojourn/frame.Put: function 55 -/
def frame_Put_main (R : VCont) (a0 : Value) (w : World) : Prop :=
  xLen P .pure #[22] a0 w fun t1 w =>
  xBin P .lss 3 t1 (Value.int IntKind.i64 1) w fun t2 w =>
  xWhen t2 false (fun K => K a0 w) w fun t3 w =>
  xWhen t2 false (fun K => xLen P .pure #[22] t3 w K) w fun t4 w =>
  xWhen t2 false (fun K => xBin P .gtr 3 t4 (Value.int IntKind.i64 1000) w K) w fun t5 w =>
  xPick t2 (Value.bool true) t5 w fun t6 w =>
  xIf t6
  (R (Value.tuple #[(Value.slice none 0 0), (Value.int IntKind.i64 1)]) w)
  (xCall P nr.pack_Sum [a0] w fun t7 w =>
  xConvK P .pure 111 5 t7 w fun t8 w =>
  xBin P .shr 111 t7 (Value.int IntKind.u64 8) w fun t9 w =>
  xConvK P .pure 111 5 t9 w fun t10 w =>
  xBin P .shr 111 t7 (Value.int IntKind.u64 16) w fun t11 w =>
  xConvK P .pure 111 5 t11 w fun t12 w =>
  xBin P .shr 111 t7 (Value.int IntKind.u64 24) w fun t13 w =>
  xConvK P .pure 111 5 t13 w fun t14 w =>
  xLen P .pure #[22] a0 w fun t15 w =>
  xConvK P .pure 3 5 t15 w fun t16 w =>
  xLen P .pure #[22] a0 w fun t17 w =>
  xBin P .shr 3 t17 (Value.int IntKind.u64 8) w fun t18 w =>
  xConvK P .pure 3 5 t18 w fun t19 w =>
  xBuildSlice P 22 6 [(0, t8), (1, t10), (2, t12), (3, t14), (4, t16), (5, t19)] w fun t20 w =>
  xBuiltin P .append #[22, 22] 22 [false, false] [t20, a0] w fun t21 w =>
  R (Value.tuple #[t21, (Value.int IntKind.i64 0)]) w)
theorem frame_Put_ok {R : VCont} {a0 : Value} {w : World} (h : frame_Put_main R a0 w) : Calls P nr.frame_Put [a0].toArray w (Ret R) :=
  calls_of_sx (P := P) (fn := Try.f55) (Os := (fun _ => .no)) (Es := []) (args := [a0]) mixed (by kernel_rfl) (by kernel_rfl) (by kernel_rfl) (by kernel_rfl) (by kernel_rfl) (by kernel_rfl) (by kernel_rfl)
    (Eq.mp (show frame_Put_main R a0 w = sxh P (fun _ => .no) [] [] 0 (bodyOf Try.f55) (retQ P Try.f55.results.toList R) (envOf [a0]) w by kernel_rfl) h)
theorem frame_Put_call {R : VCont} {a0 : Value} {w : World} (h : frame_Put_main R a0 w) : xCall P nr.frame_Put [a0] w R :=
  xCall_of (P := P) (fn := Try.f55) (by kernel_rfl) (by kernel_rfl) (by kernel_rfl) (frame_Put_ok h)

/-! sojourn/frame.Read: function 64 -/
def frame_Read_j0 (R : VCont) (v4 v5 : Value) (w : World) : Prop :=
  Sx.dr w fun w =>
  xLoad1 v4 w fun t4 w' =>
  w' = w ∧
  xLoad1 v5 w fun t5 w' =>
  w' = w ∧
  R (Value.tuple #[t4, t5]) w
def frame_Read_l1 (R : VCont) (X0 : LX) (v4 v5 v6 : Value) (w : World) : Prop :=
  xCallV P v6 [] w fun t7 w =>
  xIf t7
  (X0 [] w)
  (frame_Read_j0 R v4 v5 w)
def frame_Read_main (R : VCont) (a0 : Value) (w : World) : Prop :=
  xBox P 22 a0 w fun t1 w =>
  xAlloc P 54 w fun t2 w =>
  xAlloc P 3 w fun t3 w =>
  xStore P 3 t3 (Value.int IntKind.i64 0) w fun _ w =>
  Lp (fun X s w => frame_Read_l1 R X t2 t3 (Value.func (.func nr.frame_Read_c1) #[] #[t1, t3, t2]) w) [] w
def frame_Read_os (i : Nat) : OT := cond (Nat.beq i 5) (.fl 0 (.fl 1 (.fl 2 (.fl 3 .done)))) (.no)
def frame_Read_es (R : VCont) : List Ent := [
  .join fun Xs e w => frame_Read_j0 R (e 4) (e 5) w,
  .loop [4, 5, 6] [] fun Xs fx X s w => frame_Read_l1 R X (fx.getD 0 undef) (fx.getD 1 undef) (fx.getD 2 undef) w]
theorem frame_Read_ok {R : VCont} {a0 : Value} {w : World} (h : frame_Read_main R a0 w) : Calls P nr.frame_Read [a0].toArray w (Ret R) :=
  calls_of_sx (P := P) (fn := Try.f64) (Os := frame_Read_os) (Es := (frame_Read_es R)) (args := [a0]) mixed (by kernel_rfl) (by kernel_rfl) (by kernel_rfl) (by kernel_rfl) (by kernel_rfl) (by kernel_rfl) (by kernel_rfl)
    (Eq.mp (show frame_Read_main R a0 w = sxh P frame_Read_os (frame_Read_es R) [] 0 (bodyOf Try.f64) (retQ P Try.f64.results.toList R) (envOf [a0]) w by kernel_rfl) h)
theorem frame_Read_call {R : VCont} {a0 : Value} {w : World} (h : frame_Read_main R a0 w) : xCall P nr.frame_Read [a0] w R :=
  xCall_of (P := P) (fn := Try.f64) (by kernel_rfl) (by kernel_rfl) (by kernel_rfl) (frame_Read_ok h)

/-! sojourn/frame.Read$1: function 76 -/
def frame_Read_c1_main (R : VCont) (a0 a1 a2 : Value) (w : World) : Prop :=
  xLoad1 a0 w fun t1 w =>
  xLoad1 a1 w fun t2 w =>
  xCall P nr.frame_One [t1, t2] w fun t3 w =>
  xExtract t3 0 w fun t4 w =>
  xExtract t3 1 w fun t5 w =>
  xBin P .lss 3 t5 (Value.int IntKind.i64 0) w fun t6 w =>
  xIf t6
  (R (Value.bool false) w)
  (xLoad1 a2 w fun t7 w =>
  xBuildSlice P 54 1 [(0, t4)] w fun t8 w =>
  xBuiltin P .append #[54, 54] 54 [false, false] [t7, t8] w fun t9 w =>
  xStore P 54 a2 t9 w fun _ w =>
  xStore P 3 a1 t5 w fun _ w =>
  R (Value.bool true) w)
theorem frame_Read_c1_ok {R : VCont} {a0 a1 a2 : Value} {w : World} (h : frame_Read_c1_main R a0 a1 a2 w) : Calls P nr.frame_Read_c1 [a0, a1, a2].toArray w (Ret R) :=
  calls_of_sx (P := P) (fn := Try.f76) (Os := (fun _ => .no)) (Es := []) (args := [a0, a1, a2]) mixed (by kernel_rfl) (by kernel_rfl) (by kernel_rfl) (by kernel_rfl) (by kernel_rfl) (by kernel_rfl) (by kernel_rfl)
    (Eq.mp (show frame_Read_c1_main R a0 a1 a2 w = sxh P (fun _ => .no) [] [] 0 (bodyOf Try.f76) (retQ P Try.f76.results.toList R) (envOf [a0, a1, a2]) w by kernel_rfl) h)
theorem frame_Read_c1_call {R : VCont} {a0 a1 a2 : Value} {w : World} (h : frame_Read_c1_main R a0 a1 a2 w) : xCall P nr.frame_Read_c1 [a0, a1, a2] w R :=
  xCall_of (P := P) (fn := Try.f76) (by kernel_rfl) (by kernel_rfl) (by kernel_rfl) (frame_Read_c1_ok h)

/-! sojourn/frame.One: function 77 -/
def frame_One_main (R : VCont) (a0 a1 : Value) (w : World) : Prop :=
  xBin P .lss 3 a1 (Value.int IntKind.i64 0) w fun t1 w =>
  xWhen t1 false (fun K => K a1 w) w fun t2 w =>
  xWhen t1 false (fun K => K a0 w) w fun t3 w =>
  xWhen t1 false (fun K => xLen P .pure #[22] t3 w K) w fun t4 w =>
  xWhen t1 false (fun K => xBin P .gtr 3 t2 t4 w K) w fun t5 w =>
  xPick t1 (Value.bool true) t5 w fun t6 w =>
  xWhen t6 false (fun K => K a0 w) w fun t7 w =>
  xWhen t6 false (fun K => xLen P .pure #[22] t7 w K) w fun t8 w =>
  xWhen t6 false (fun K => K a1 w) w fun t9 w =>
  xWhen t6 false (fun K => xBin P .sub 3 t8 t9 w K) w fun t10 w =>
  xWhen t6 false (fun K => xBin P .lss 3 t10 (Value.int IntKind.i64 6) w K) w fun t11 w =>
  xPick t6 (Value.bool true) t11 w fun t12 w =>
  xIf t12
  (R (Value.tuple #[(Value.slice none 0 0), (Value.int IntKind.i64 (-1))]) w)
  (Sx.dr w fun w =>
  xBin P .add 3 a1 (Value.int IntKind.i64 4) w fun t13 _ =>
  xIndexAddr P 22 a0 t13 w fun t14 _ =>
  xLoad1 t14 w fun t15 w' =>
  w' = w ∧
  xConvK P .pure 5 3 t15 w fun t16 _ =>
  xBin P .add 3 a1 (Value.int IntKind.i64 5) w fun t17 _ =>
  xIndexAddr P 22 a0 t17 w fun t18 _ =>
  xLoad1 t18 w fun t19 w' =>
  w' = w ∧
  xConvK P .pure 5 3 t19 w fun t20 _ =>
  xBin P .shl 3 t20 (Value.int IntKind.u64 8) w fun t21 _ =>
  xBin P .or 3 t16 t21 w fun t22 _ =>
  xBin P .lss 3 t22 (Value.int IntKind.i64 1) w fun t23 w =>
  xWhen t23 false (fun K => K t22 w) w fun t24 w =>
  xWhen t23 false (fun K => xBin P .gtr 3 t24 (Value.int IntKind.i64 1000) w K) w fun t25 w =>
  xPick t23 (Value.bool true) t25 w fun t26 w =>
  xWhen t26 false (fun K => K t22 w) w fun t27 w =>
  xWhen t26 false (fun K => K a0 w) w fun t28 w =>
  xWhen t26 false (fun K => xLen P .pure #[22] t28 w K) w fun t29 w =>
  xWhen t26 false (fun K => K a1 w) w fun t30 w =>
  xWhen t26 false (fun K => xBin P .sub 3 t29 t30 w K) w fun t31 w =>
  xWhen t26 false (fun K => xBin P .sub 3 t31 (Value.int IntKind.i64 6) w K) w fun t32 w =>
  xWhen t26 false (fun K => xBin P .gtr 3 t27 t32 w K) w fun t33 w =>
  xPick t26 (Value.bool true) t33 w fun t34 w =>
  xIf t34
  (R (Value.tuple #[(Value.slice none 0 0), (Value.int IntKind.i64 (-1))]) w)
  (xBin P .add 3 a1 (Value.int IntKind.i64 6) w fun t35 w =>
  xBin P .add 3 a1 (Value.int IntKind.i64 6) w fun t36 w =>
  xBin P .add 3 t36 t22 w fun t37 w =>
  xSlice P 22 a0 (some t35) (some t37) none w fun t38 w =>
  Sx.dr w fun w =>
  xIndexAddr P 22 a0 a1 w fun t39 _ =>
  xLoad1 t39 w fun t40 w' =>
  w' = w ∧
  xConvK P .pure 5 111 t40 w fun t41 _ =>
  xBin P .add 3 a1 (Value.int IntKind.i64 1) w fun t42 _ =>
  xIndexAddr P 22 a0 t42 w fun t43 _ =>
  xLoad1 t43 w fun t44 w' =>
  w' = w ∧
  xConvK P .pure 5 111 t44 w fun t45 _ =>
  xBin P .shl 111 t45 (Value.int IntKind.u64 8) w fun t46 _ =>
  xBin P .or 111 t41 t46 w fun t47 _ =>
  xBin P .add 3 a1 (Value.int IntKind.i64 2) w fun t48 _ =>
  xIndexAddr P 22 a0 t48 w fun t49 _ =>
  xLoad1 t49 w fun t50 w' =>
  w' = w ∧
  xConvK P .pure 5 111 t50 w fun t51 _ =>
  xBin P .shl 111 t51 (Value.int IntKind.u64 16) w fun t52 _ =>
  xBin P .or 111 t47 t52 w fun t53 _ =>
  xBin P .add 3 a1 (Value.int IntKind.i64 3) w fun t54 _ =>
  xIndexAddr P 22 a0 t54 w fun t55 _ =>
  xLoad1 t55 w fun t56 w' =>
  w' = w ∧
  xConvK P .pure 5 111 t56 w fun t57 _ =>
  xBin P .shl 111 t57 (Value.int IntKind.u64 24) w fun t58 _ =>
  xBin P .or 111 t53 t58 w fun t59 _ =>
  xCall P nr.pack_Sum [t38] w fun t60 w =>
  xEq P .neq 111 false false t60 t59 w fun t61 w =>
  xIf t61
  (R (Value.tuple #[(Value.slice none 0 0), (Value.int IntKind.i64 (-1))]) w)
  (xBuildSlice P 22 0 [] w fun t62 w =>
  xBuiltin P .append #[22, 22] 22 [false, false] [t62, t38] w fun t63 w =>
  xBin P .add 3 a1 (Value.int IntKind.i64 6) w fun t64 w =>
  xBin P .add 3 t64 t22 w fun t65 w =>
  R (Value.tuple #[t63, t65]) w)))
def frame_One_os (i : Nat) : OT := cond (Nat.beq i 3) (.fl 0 (.fl 1 (.fl 2 (.fl 3 (.fl 4 (.fl 5 (.fl 6 (.fl 7 (.fl 8 (.fl 9 (.fl 10 (.fl 11 (.fl 12 (.fl 13 (.fl 14 .done))))))))))))))) (cond (Nat.beq i 7) (.fl 0 (.fl 1 (.fl 2 (.fl 3 (.fl 4 (.fl 5 (.fl 6 (.fl 7 (.fl 8 (.fl 9 (.fl 10 (.fl 11 (.fl 12 (.fl 13 (.fl 14 (.fl 15 (.fl 16 (.fl 17 (.fl 18 (.fl 19 (.fl 20 (.fl 21 (.fl 22 (.fl 23 (.fl 24 (.fl 25 (.fl 26 (.fl 27 (.fl 28 (.fl 29 .done)))))))))))))))))))))))))))))) (.no))
theorem frame_One_ok {R : VCont} {a0 a1 : Value} {w : World} (h : frame_One_main R a0 a1 w) : Calls P nr.frame_One [a0, a1].toArray w (Ret R) :=
  calls_of_sx (P := P) (fn := Try.f77) (Os := frame_One_os) (Es := []) (args := [a0, a1]) mixed (by kernel_rfl) (by kernel_rfl) (by kernel_rfl) (by kernel_rfl) (by kernel_rfl) (by kernel_rfl) (by kernel_rfl)
    (Eq.mp (show frame_One_main R a0 a1 w = sxh P frame_One_os [] [] 0 (bodyOf Try.f77) (retQ P Try.f77.results.toList R) (envOf [a0, a1]) w by kernel_rfl) h)
theorem frame_One_call {R : VCont} {a0 a1 : Value} {w : World} (h : frame_One_main R a0 a1 w) : xCall P nr.frame_One [a0, a1] w R :=
  xCall_of (P := P) (fn := Try.f77) (by kernel_rfl) (by kernel_rfl) (by kernel_rfl) (frame_One_ok h)

end Go.Proofs.Ytamejkogghpbhaa
end
