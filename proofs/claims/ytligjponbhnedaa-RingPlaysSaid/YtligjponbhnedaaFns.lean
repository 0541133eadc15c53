/-
  NUMBERS BY NAME, AND EACH FUNCTION IN PLAIN LOGIC: printed by a program of ours over this translation.
-/
import Derived.Test.YtligjponbhnedaaSh12
import Derived.Test.YtligjponbhnedaaRows
set_option maxRecDepth 100000
set_option linter.unusedVariables false
namespace Go.Proofs.Ytligjponbhnedaa
open Go.Sh
def bodyOf (fn : Func) : Code := match fn.body with | some c => c | none => .skip
abbrev T_ : TypeId := 0
abbrev T_func : TypeId := 1
abbrev T_int64 : TypeId := 2
abbrev T_int : TypeId := 3
abbrev T_bool : TypeId := 4
abbrev T_uint8 : TypeId := 5
abbrev T_internal_abi_BoundsErrorCode : TypeId := 6
abbrev T_struct_x_int64_y_int_signed_bool_code_ab : TypeId := 7
abbrev T_runtime_boundsError : TypeId := 8
abbrev T_string : TypeId := 9
abbrev T_runtime_errorString : TypeId := 10
abbrev T_runtime_plainError : TypeId := 11
abbrev T_uintptr : TypeId := 12
abbrev T_struct_msg_string_addr_uintptr : TypeId := 13
abbrev T_runtime_errorAddressString : TypeId := 14
abbrev T_p_runtime_TypeAssertionError : TypeId := 15
abbrev T_p_runtime_PanicNilError : TypeId := 16
abbrev T_p_abi_Type : TypeId := 17
abbrev T_struct_typ_p_abi_Type : TypeId := 18
abbrev T_internal_runtime_maps_unhashableTypeErro : TypeId := 19
abbrev T_interface : TypeId := 20
abbrev T_int32 : TypeId := 21
abbrev T_sl_uint8 : TypeId := 22
abbrev T_func_bool : TypeId := 23
abbrev T_funcsl_uint8_sl_uint8 : TypeId := 24
abbrev T_p_pool_Pool : TypeId := 25
abbrev T_api_Errno : TypeId := 26
abbrev T_pool_Pool_api_Errno : TypeId := 27
abbrev T_funcint_pool_Pool_api_Errno : TypeId := 28
abbrev T_struct_N_int_Ticket_int : TypeId := 29
abbrev T_pool_Handle : TypeId := 30
abbrev T_pool_Handle_api_Errno : TypeId := 31
abbrev T_funcsl_uint8_pool_Handle_api_Errno : TypeId := 32
abbrev T_sl_uint8_api_Errno : TypeId := 33
abbrev T_funcpool_Handle_sl_uint8_api_Errno : TypeId := 34
abbrev T_funcpool_Handle_sl_uint8_api_Errno_35 : TypeId := 35
abbrev T_funcsl_uint8_sl_uint8_bool : TypeId := 36
abbrev T_funcsl_uint8_sl_uint8_sl_uint8_bool : TypeId := 37
abbrev T_sl_pointsmanlaw02_Act : TypeId := 38
abbrev T_funcint_int_int : TypeId := 39
abbrev T_p_pointsmanref02_Pool : TypeId := 40
abbrev T_pointsmanref02_Pool_api_Errno : TypeId := 41
abbrev T_funcint_pointsmanref02_Pool_api_Errno : TypeId := 42
abbrev T_sl_pool_Handle : TypeId := 43
abbrev T_struct_Do_int_By_int_Raw_bool_H_pool_Han : TypeId := 44
abbrev T_law02_Act : TypeId := 45
abbrev T_funcpointsmanref02_Pool_pointsmanlaw02_A : TypeId := 46
abbrev T_funcpool_Handle_api_Errno : TypeId := 47
abbrev T_funcpointsmanref02_Handle_api_Errno : TypeId := 48
abbrev T_ref02_Handle : TypeId := 49
abbrev T_pointsmanref02_Handle_api_Errno : TypeId := 50
abbrev T_funcsl_uint8_pointsmanref02_Handle_api_E : TypeId := 51
abbrev T_func_int : TypeId := 52
abbrev T_func_sl_pool_Handle : TypeId := 53
abbrev T_funcint_sl_pointsmanlaw02_Act_bool : TypeId := 54
abbrev T_funcpool_Pool_p_pointsmanref02_Pool_poin : TypeId := 55
abbrev T_funcpool_Pool_p_pointsmanref02_Pool_bool : TypeId := 56
abbrev T_sl_pool_buffer : TypeId := 57
abbrev T_a256_int : TypeId := 58
abbrev T_struct_l_sl_pool_buffer_free_a256_int_fi : TypeId := 59
abbrev T_pool_Pool : TypeId := 60
abbrev T_funcpool_Handle_sl_uint8_bool : TypeId := 61
abbrev T_sl_int : TypeId := 62
abbrev T_p_ring_Ring : TypeId := 63
abbrev T_ring_Ring_api_Errno : TypeId := 64
abbrev T_funcint_ring_Ring_api_Errno : TypeId := 65
abbrev T_funcpool_Pool_sl_uint8_api_Errno : TypeId := 66
abbrev T_func_pool_Handle_api_Errno : TypeId := 67
abbrev T_func_sl_int : TypeId := 68
abbrev T_funcint_int : TypeId := 69
abbrev T_funcint_sl_int_bool : TypeId := 70
abbrev T_struct_state_int_handle_pool_Handle : TypeId := 71
abbrev T_ring_slot : TypeId := 72
abbrev T_a64_ring_slot : TypeId := 73
abbrev T_a3_int : TypeId := 74
abbrev T_struct_l_a64_ring_slot_n_int_post_int_wo : TypeId := 75
abbrev T_ring_Ring : TypeId := 76
abbrev T_funcpool_Pool_sl_uint8_api_Errno_77 : TypeId := 77
abbrev T_sl_pointsmanlaw03_Act : TypeId := 78
abbrev T_p_pointsmanref03_Ring : TypeId := 79
abbrev T_pointsmanref03_Ring_api_Errno : TypeId := 80
abbrev T_funcint_pointsmanref03_Ring_api_Errno : TypeId := 81
abbrev T_struct_Do_int_H_pool_Handle_B_sl_uint8 : TypeId := 82
abbrev T_law03_Act : TypeId := 83
abbrev T_funcpointsmanref02_Pool_sl_uint8_api_Err : TypeId := 84
abbrev T_funcpointsmanref02_Pool_sl_uint8_api_Err_85 : TypeId := 85
abbrev T_func_pointsmanref02_Handle_api_Errno : TypeId := 86
abbrev T_funcsl_int_sl_int_bool : TypeId := 87
abbrev T_sl_pointsmanref02_Handle : TypeId := 88
abbrev T_struct_N_int_Posted_sl_pointsmanref02_Ha : TypeId := 89
abbrev T_ref03_Ring : TypeId := 90
abbrev T_funcint_int_sl_pointsmanlaw03_Act_bool : TypeId := 91
abbrev T_a1514_uint8 : TypeId := 92
abbrev T_struct_ticket_int_n_int_b_a1514_uint8 : TypeId := 93
abbrev T_pool_buffer : TypeId := 94
abbrev T_funcsl_uint8 : TypeId := 95
abbrev T_p_pool_buffer : TypeId := 96
abbrev T_pool_buffer_api_Errno : TypeId := 97
abbrev T_funcpool_Handle_pool_buffer_api_Errno : TypeId := 98
abbrev T_uint64 : TypeId := 99
abbrev T_sl_pointsmanref02_Buf : TypeId := 100
abbrev T_struct_L_sl_pointsmanref02_Buf_Free_sl_i : TypeId := 101
abbrev T_ref02_Pool : TypeId := 102
abbrev T_func_sl_pointsmanref02_Handle : TypeId := 103
abbrev T_struct_Ticket_int_B_sl_uint8 : TypeId := 104
abbrev T_ref02_Buf : TypeId := 105
abbrev T_funcpointsmanref02_Handle_sl_uint8_api_E : TypeId := 106
abbrev T_funcpointsmanref02_Handle_sl_uint8_api_E_107 : TypeId := 107
abbrev T_p_ring_slot : TypeId := 108
abbrev T_ring_slot_bool : TypeId := 109
abbrev T_funcint_int_int_ring_slot_bool : TypeId := 110
abbrev T_p_int : TypeId := 111
abbrev T_sl_ring_slot : TypeId := 112
abbrev T_pointsmanref02_Handle_bool : TypeId := 113
abbrev T_func_pointsmanref02_Handle_bool : TypeId := 114
abbrev T_func_string : TypeId := 115
abbrev T_struct_interface_p_abi_Type_concrete_p_a : TypeId := 116
abbrev T_runtime_TypeAssertionError : TypeId := 117
abbrev T_a0_p_runtime_PanicNilError : TypeId := 118
abbrev T_struct_a0_p_runtime_PanicNilError : TypeId := 119
abbrev T_runtime_PanicNilError : TypeId := 120
abbrev T_uint32 : TypeId := 121
abbrev T_internal_abi_TFlag : TypeId := 122
abbrev T_internal_abi_Kind : TypeId := 123
abbrev T_funcunsafe_Pointer_unsafe_Pointer_bool : TypeId := 124
abbrev T_p_uint8 : TypeId := 125
abbrev T_internal_abi_NameOff : TypeId := 126
abbrev T_internal_abi_TypeOff : TypeId := 127
abbrev T_struct_Size_uintptr_PtrBytes_uintptr_Has : TypeId := 128
abbrev T_internal_abi_Type : TypeId := 129
abbrev T_unsafe_Pointer : TypeId := 130
abbrev f_main_main : FuncId := 0
abbrev f_gosem_cut : FuncId := 1
abbrev f_gosem_cut_init : FuncId := 2
abbrev f_law02_PoolApart : FuncId := 3
abbrev f_law02_PoolOnce : FuncId := 4
abbrev f_law02_PoolPlays : FuncId := 5
abbrev f_law02_PoolVoid : FuncId := 6
abbrev f_law03_RingOrder : FuncId := 7
abbrev f_law03_RingVoid : FuncId := 8
abbrev f_law03_RingPlays : FuncId := 9
abbrev f_law02_works : FuncId := 10
abbrev f_law02_bytes : FuncId := 11
abbrev f_pool_Make : FuncId := 12
abbrev f_base_Bytes : FuncId := 13
abbrev f_pool_Pool_Lend : FuncId := 14
abbrev f_pool_Pool_Read : FuncId := 15
abbrev f_pool_Pool_Write : FuncId := 16
abbrev f_base_SameBytes : FuncId := 17
abbrev f_base_Among : FuncId := 18
abbrev f_ref02_Make : FuncId := 19
abbrev f_law02_handle : FuncId := 20
abbrev f_pool_Pool_Give : FuncId := 21
abbrev f_ref02_Pool_Give : FuncId := 22
abbrev f_ref02_Pool_Lend : FuncId := 23
abbrev f_pool_Pool_Free : FuncId := 24
abbrev f_pool_Pool_Lent : FuncId := 25
abbrev f_pool_Pool_Size : FuncId := 26
abbrev f_law02_do : FuncId := 27
abbrev f_law02_same : FuncId := 28
abbrev f_law03_works : FuncId := 29
abbrev f_ring_Make : FuncId := 30
abbrev f_ring_Ring_Post : FuncId := 31
abbrev f_ring_Ring_Fill : FuncId := 32
abbrev f_ring_Ring_Reap : FuncId := 33
abbrev f_ring_Ring_Slots : FuncId := 34
abbrev f_ring_Ring_Count : FuncId := 35
abbrev f_ring_Ring_Take : FuncId := 36
abbrev f_ref03_Make : FuncId := 37
abbrev f_ref03_Ring_Post : FuncId := 38
abbrev f_ref03_Ring_Fill : FuncId := 39
abbrev f_ref03_Ring_Take : FuncId := 40
abbrev f_ref03_Ring_Reap : FuncId := 41
abbrev f_base_SameInts : FuncId := 42
abbrev f_ref03_Ring_Slots : FuncId := 43
abbrev f_pool_Pool_is : FuncId := 44
abbrev f_pool_buffer_fill : FuncId := 45
abbrev f_pool_Pool_find : FuncId := 46
abbrev f_ref02_Pool_Lent : FuncId := 47
abbrev f_ref02_Pool_find : FuncId := 48
abbrev f_ref02_Pool_Read : FuncId := 49
abbrev f_ref02_Pool_Write : FuncId := 50
abbrev f_ring_Ring_is : FuncId := 51
abbrev f_ring_Ring_turn : FuncId := 52
abbrev f_ring_Ring_device : FuncId := 53
abbrev f_ref03_Ring_work : FuncId := 54
abbrev f_runtime_boundsError_Error : FuncId := 55
abbrev f_runtime_boundsError_RuntimeError : FuncId := 56
abbrev f_runtime_errorString_Error : FuncId := 57
abbrev f_runtime_errorString_RuntimeError : FuncId := 58
abbrev f_runtime_plainError_Error : FuncId := 59
abbrev f_runtime_plainError_RuntimeError : FuncId := 60
abbrev f_runtime_errorAddressString_Error : FuncId := 61
abbrev f_runtime_errorAddressString_RuntimeError : FuncId := 62
abbrev f_runtime_TypeAssertionError_Error : FuncId := 63
abbrev f_runtime_TypeAssertionError_RuntimeError : FuncId := 64
abbrev f_runtime_PanicNilError_Error : FuncId := 65
abbrev f_runtime_PanicNilError_RuntimeError : FuncId := 66
abbrev f_internal_abi_Type_Align : FuncId := 67
abbrev f_internal_runtime_maps_unhashableTypeError_Error : FuncId := 68
abbrev f_internal_runtime_maps_unhashableTypeError_RuntimeError : FuncId := 69
abbrev f_api_Errno_Error : FuncId := 70
abbrev f_internal_abi_Kind_String : FuncId := 71
noncomputable def zl_T_pool_Pool : List Value := (zeroL Try.prog T_pool_Pool).getD []
noncomputable def zl_T_ring_Ring : List Value := (zeroL Try.prog T_ring_Ring).getD []
def plan_law02_PoolApart : Plan := ⟨[], []⟩
theorem k_law02_PoolApart : Known Try.prog f_law02_PoolApart Try.f3 plan_law02_PoolApart (bodyOf Try.f3) := ⟨Try.func3, by kernel_rfl, by kernel_rfl, by kernel_rfl, by kernel_rfl, by kernel_rfl⟩
def law02_PoolApart_j2 (x24a : Option Addr) (x24n : Nat) (x24c : Nat) (x28a : Option Addr) (x28n : Nat) (x28c : Nat) (x43r0 : Option Addr) (h10b : Nat) (k12b : Nat) (H20 : Heap) (R : Value → Heap → Prop) : Prop :=
 ∃ x85c0 : Int, H20.cell ⟨k12b, 0, none⟩ = some (Value.int .i64 x85c0) ∧ ∃ x85c1 : Int, H20.cell ⟨k12b, 1, none⟩ = some (Value.int .i64 x85c1) ∧ FnW Try.prog f_pool_Pool_Write ⟨[(Value.pointer x43r0), (Value.agg ⟨[(Value.int .i64 x85c0), (Value.int .i64 x85c1)]⟩), (Value.slice x28a x28n x28c)]⟩ H20 fun x87v H21 =>
 ∃ x87 : Int, x87v = (Value.int .i64 x87) ∧
 ∃ x90c0 : Int, H21.cell ⟨h10b, 0, none⟩ = some (Value.int .i64 x90c0) ∧ ∃ x90c1 : Int, H21.cell ⟨h10b, 1, none⟩ = some (Value.int .i64 x90c1) ∧ FnW Try.prog f_pool_Pool_Read ⟨[(Value.pointer x43r0), (Value.agg ⟨[(Value.int .i64 x90c0), (Value.int .i64 x90c1)]⟩)]⟩ H21 fun x91v H22 =>
 ∃ (x91r0a : Option Addr) (x91r0n x91r0c : Nat), ∃ x91r1 : Int, x91v = (Value.tuple ⟨[(Value.slice x91r0a x91r0n x91r0c), (Value.int .i64 x91r1)]⟩) ∧
 ∃ x96c0 : Int, H22.cell ⟨k12b, 0, none⟩ = some (Value.int .i64 x96c0) ∧ ∃ x96c1 : Int, H22.cell ⟨k12b, 1, none⟩ = some (Value.int .i64 x96c1) ∧ FnW Try.prog f_pool_Pool_Read ⟨[(Value.pointer x43r0), (Value.agg ⟨[(Value.int .i64 x96c0), (Value.int .i64 x96c1)]⟩)]⟩ H22 fun x97v H23 =>
 ∃ (x97r0a : Option Addr) (x97r0n x97r0c : Nat), ∃ x97r1 : Int, x97v = (Value.tuple ⟨[(Value.slice x97r0a x97r0n x97r0c), (Value.int .i64 x97r1)]⟩) ∧
 IfB ((x87 : Int) == 0)
 (IfB ((x91r1 : Int) == 0)
 (IfB ((x97r1 : Int) == 0)
 (FnW Try.prog f_base_SameBytes ⟨[(Value.slice x91r0a x91r0n x91r0c), (Value.slice x24a x24n x24c)]⟩ H23 fun x113v H24 =>
 ∃ x113 : Bool, x113v = (Value.bool x113) ∧
 IfB x113
 (FnW Try.prog f_base_SameBytes ⟨[(Value.slice x97r0a x97r0n x97r0c), (Value.slice x28a x28n x28c)]⟩ H24 fun x118v H25 =>
 ∃ x118 : Bool, x118v = (Value.bool x118) ∧
 R (Value.bool x118) H25)
 (R (Value.bool false) H24))
 (R (Value.bool false) H23))
 (R (Value.bool false) H23))
 (R (Value.bool false) H23)
def law02_PoolApart_j1 (x24a : Option Addr) (x24n : Nat) (x24c : Nat) (x28a : Option Addr) (x28n : Nat) (x28c : Nat) (x43r0 : Option Addr) (h10b : Nat) (k12b : Nat) (H17 : Heap) (R : Value → Heap → Prop) : Prop :=
 ∃ x71c0 : Int, H17.cell ⟨h10b, 0, none⟩ = some (Value.int .i64 x71c0) ∧ ∃ x71c1 : Int, H17.cell ⟨h10b, 1, none⟩ = some (Value.int .i64 x71c1) ∧ FnW Try.prog f_pool_Pool_Read ⟨[(Value.pointer x43r0), (Value.agg ⟨[(Value.int .i64 x71c0), (Value.int .i64 x71c1)]⟩)]⟩ H17 fun x72v H18 =>
 ∃ (x72r0a : Option Addr) (x72r0n x72r0c : Nat), ∃ x72r1 : Int, x72v = (Value.tuple ⟨[(Value.slice x72r0a x72r0n x72r0c), (Value.int .i64 x72r1)]⟩) ∧
 IfB (decide (((x72r0n : Int) : Int) > 0))
 (NilP x72r0a fun x80q =>
 InB 0 x72r0n fun x80i =>
 elemAt x80q x80i 1 fun x80p =>
 ∃ x81 : Int, H18.cell x80p = some (Value.int .u8 x81) ∧
 NilP x72r0a fun x83q =>
 InB 0 x72r0n fun x83i =>
 elemAt x83q x83i 1 fun x83p =>
 StCell H18 x83p (Value.int .u8 (bitsXor .u8 x81 2)) fun H19 =>
 law02_PoolApart_j2 x24a x24n x24c x28a x28n x28c x43r0 h10b k12b H19 R)
 (law02_PoolApart_j2 x24a x24n x24c x28a x28n x28c x43r0 h10b k12b H18 R)
def law02_PoolApart_j0 (x24a : Option Addr) (x24n : Nat) (x24c : Nat) (x26a : Option Addr) (x26n : Nat) (x26c : Nat) (x28a : Option Addr) (x28n : Nat) (x28c : Nat) (x41 : Bool) (H5 : Heap) (R : Value → Heap → Prop) : Prop :=
 IfB x41
 (R (Value.bool true) H5)
 (FnW Try.prog f_pool_Make ⟨[(Value.int .i64 3)]⟩ H5 fun x43v H6 =>
 ∃ x43r0 : Option Addr, ∃ x43r1 : Int, x43v = (Value.tuple ⟨[(Value.pointer x43r0), (Value.int .i64 x43r1)]⟩) ∧
 FnW Try.prog f_base_Bytes ⟨[(Value.slice x24a x24n x24c)]⟩ H6 fun x47v H7 =>
 ∃ (x47a : Option Addr) (x47n x47c : Nat), x47v = (Value.slice x47a x47n x47c) ∧
 FnW Try.prog f_pool_Pool_Lend ⟨[(Value.pointer x43r0), (Value.slice x47a x47n x47c)]⟩ H7 fun x51v H8 =>
 ∃ x51r0c0 : Int, ∃ x51r0c1 : Int, ∃ x51r1 : Int, x51v = (Value.tuple ⟨[(Value.agg ⟨[(Value.int .i64 x51r0c0), (Value.int .i64 x51r0c1)]⟩), (Value.int .i64 x51r1)]⟩) ∧
 NewW H8 (Obj.cells ⟨[(Value.int .i64 0), (Value.int .i64 0)]⟩ T_pool_Handle) fun h10b H9 =>
 StCell H9 ⟨h10b, 0, none⟩ (Value.int .i64 x51r0c0) fun H10 =>
 StCell H10 ⟨h10b, 1, none⟩ (Value.int .i64 x51r0c1) fun H11 =>
 FnW Try.prog f_pool_Pool_Lend ⟨[(Value.pointer x43r0), (Value.slice x26a x26n x26c)]⟩ H11 fun x57v H12 =>
 ∃ x57r0c0 : Int, ∃ x57r0c1 : Int, ∃ x57r1 : Int, x57v = (Value.tuple ⟨[(Value.agg ⟨[(Value.int .i64 x57r0c0), (Value.int .i64 x57r0c1)]⟩), (Value.int .i64 x57r1)]⟩) ∧
 NewW H12 (Obj.cells ⟨[(Value.int .i64 0), (Value.int .i64 0)]⟩ T_pool_Handle) fun k12b H13 =>
 StCell H13 ⟨k12b, 0, none⟩ (Value.int .i64 x57r0c0) fun H14 =>
 StCell H14 ⟨k12b, 1, none⟩ (Value.int .i64 x57r0c1) fun H15 =>
 IfB (decide (((x47n : Int) : Int) > 0))
 (NilP x47a fun x65q =>
 InB 0 x47n fun x65i =>
 elemAt x65q x65i 1 fun x65p =>
 ∃ x66 : Int, H15.cell x65p = some (Value.int .u8 x66) ∧
 NilP x47a fun x68q =>
 InB 0 x47n fun x68i =>
 elemAt x68q x68i 1 fun x68p =>
 StCell H15 x68p (Value.int .u8 (bitsXor .u8 x66 1)) fun H16 =>
 law02_PoolApart_j1 x24a x24n x24c x28a x28n x28c x43r0 h10b k12b H16 R)
 (law02_PoolApart_j1 x24a x24n x24c x28a x28n x28c x43r0 h10b k12b H15 R))
def law02_PoolApart_p (a0a : Option Addr) (a0n : Nat) (a0c : Nat) (b1a : Option Addr) (b1n : Nat) (b1c : Nat) (c2a : Option Addr) (c2n : Nat) (c2c : Nat) (H : Heap) (R : Value → Heap → Prop) : Prop :=
 FnW Try.prog f_law02_works ⟨[]⟩ H fun x21v H1 =>
 ∃ x21 : Bool, x21v = (Value.bool x21) ∧
 IfB (!x21)
 (R (Value.bool false) H1)
 (FnW Try.prog f_law02_bytes ⟨[(Value.slice a0a a0n a0c)]⟩ H1 fun x24v H2 =>
 ∃ (x24a : Option Addr) (x24n x24c : Nat), x24v = (Value.slice x24a x24n x24c) ∧
 FnW Try.prog f_law02_bytes ⟨[(Value.slice b1a b1n b1c)]⟩ H2 fun x26v H3 =>
 ∃ (x26a : Option Addr) (x26n x26c : Nat), x26v = (Value.slice x26a x26n x26c) ∧
 FnW Try.prog f_law02_bytes ⟨[(Value.slice c2a c2n c2c)]⟩ H3 fun x28v H4 =>
 ∃ (x28a : Option Addr) (x28n x28c : Nat), x28v = (Value.slice x28a x28n x28c) ∧
 IfB (decide (((x24n : Int) : Int) > 1514))
 (law02_PoolApart_j0 x24a x24n x24c x26a x26n x26c x28a x28n x28c true H4 R)
 (IfB (decide (((x26n : Int) : Int) > 1514))
 (law02_PoolApart_j0 x24a x24n x24c x26a x26n x26c x28a x28n x28c true H4 R)
 (law02_PoolApart_j0 x24a x24n x24c x26a x26n x26c x28a x28n x28c (decide (((x28n : Int) : Int) > 1514)) H4 R)))
theorem law02_PoolApart_eq (a0a : Option Addr) (a0n : Nat) (a0c : Nat) (b1a : Option Addr) (b1n : Nat) (b1c : Nat) (c2a : Option Addr) (c2n : Nat) (c2c : Nat) (H : Heap) (R : Value → Heap → Prop) : law02_PoolApart_p a0a a0n a0c b1a b1n b1c c2a c2n c2c H R = CodeW Try.prog plan_law02_PoolApart (bodyOf Try.f3) (env0 [(Value.slice a0a a0n a0c), (Value.slice b1a b1n b1c), (Value.slice c2a c2n c2c)]) H (RetW Try.prog Try.f3.results.toList R) := by kernel_rfl
theorem law02_PoolApart_sh (a0a : Option Addr) (a0n : Nat) (a0c : Nat) (b1a : Option Addr) (b1n : Nat) (b1c : Nat) (c2a : Option Addr) (c2n : Nat) (c2c : Nat) {H : Heap} {R : Value → Heap → Prop} (h : law02_PoolApart_p a0a a0n a0c b1a b1n b1c c2a c2n c2c H R) : FnW Try.prog f_law02_PoolApart ⟨[(Value.slice a0a a0n a0c), (Value.slice b1a b1n b1c), (Value.slice c2a c2n c2c)]⟩ H R := FnW.of_code k_law02_PoolApart rfl (Eq.mp (law02_PoolApart_eq a0a a0n a0c b1a b1n b1c c2a c2n c2c H R) h)
def plan_law02_PoolOnce : Plan := ⟨[], [(8, [9, 10], [.slice, .int .i64], [0, 1, 5, 7]), (19, [13], [.int .i64], [0, 1, 5, 7, 9, 10])]⟩
theorem k_law02_PoolOnce : Known Try.prog f_law02_PoolOnce Try.f4 plan_law02_PoolOnce (bodyOf Try.f4) := ⟨Try.func4, by kernel_rfl, by kernel_rfl, by kernel_rfl, by kernel_rfl, by kernel_rfl⟩
def law02_PoolOnce_j4 (x19 : Int) (acts1a : Option Addr) (acts1n : Nat) (acts1c : Nat) (x23r0 : Option Addr) (x28r0 : Option Addr) (old9a_1 : Option Addr) (old9n_1 : Nat) (old9c_1 : Nat) (i10 : Int) (k13 : Int) (next8 : ((Option Addr × Nat × Nat) × Int × Unit) → Heap → Prop) (next19 : (Int × Unit) → Heap → Prop) (x103 : Bool) (H29 : Heap) (R : Value → Heap → Prop) : Prop :=
 IfB x103
 (R (Value.bool false) H29)
 (next19 ((IntKind.wrap .i64 (k13 + 1)), ()) H29)
def law02_PoolOnce_j5 (x19 : Int) (acts1a : Option Addr) (acts1n : Nat) (acts1c : Nat) (x23r0 : Option Addr) (x28r0 : Option Addr) (old9a_1 : Option Addr) (old9n_1 : Nat) (old9c_1 : Nat) (i10 : Int) (next8 : ((Option Addr × Nat × Nat) × Int × Unit) → Heap → Prop) (next19 : (Int × Unit) → Heap → Prop) (x117 : Bool) (H33 : Heap) (R : Value → Heap → Prop) : Prop :=
 IfB x117
 (R (Value.bool false) H33)
 (next8 ((old9a_1, old9n_1, old9c_1), ((IntKind.wrap .i64 (i10 + 1)), ())) H33)
def law02_PoolOnce_l19 (x19 : Int) (acts1a : Option Addr) (acts1n : Nat) (acts1c : Nat) (x23r0 : Option Addr) (x28r0 : Option Addr) (old9a_1 : Option Addr) (old9n_1 : Nat) (old9c_1 : Nat) (i10 : Int) (next8 : ((Option Addr × Nat × Nat) × Int × Unit) → Heap → Prop) (k13 : Int) (H27 : Heap) (next19 : (Int × Unit) → Heap → Prop) (R : Value → Heap → Prop) : Prop :=
 IfB (decide ((k13 : Int) < (old9n_1 : Int)))
 (NilP old9a_1 fun x88q =>
 InB k13 old9n_1 fun x88i =>
 elemAt x88q x88i 2 fun x88p =>
 ∃ x89c0 : Int, H27.cell x88p = some (Value.int .i64 x89c0) ∧ ∃ x89c1 : Int, H27.cell ⟨x88p.block, x88p.off + 1, none⟩ = some (Value.int .i64 x89c1) ∧ FnW Try.prog f_pool_Pool_Read ⟨[(Value.pointer x23r0), (Value.agg ⟨[(Value.int .i64 x89c0), (Value.int .i64 x89c1)]⟩)]⟩ H27 fun x90v H28 =>
 ∃ (x90r0a : Option Addr) (x90r0n x90r0c : Nat), ∃ x90r1 : Int, x90v = (Value.tuple ⟨[(Value.slice x90r0a x90r0n x90r0c), (Value.int .i64 x90r1)]⟩) ∧
 IfB ((x90r1 : Int) != 5)
 (law02_PoolOnce_j4 x19 acts1a acts1n acts1c x23r0 x28r0 old9a_1 old9n_1 old9c_1 i10 k13 next8 next19 true H28 R)
 (NilP old9a_1 fun x99q =>
 InB k13 old9n_1 fun x99i =>
 elemAt x99q x99i 2 fun x99p =>
 ∃ x100c0 : Int, H28.cell x99p = some (Value.int .i64 x100c0) ∧ ∃ x100c1 : Int, H28.cell ⟨x99p.block, x99p.off + 1, none⟩ = some (Value.int .i64 x100c1) ∧ FnW Try.prog f_pool_Pool_Give ⟨[(Value.pointer x23r0), (Value.agg ⟨[(Value.int .i64 x100c0), (Value.int .i64 x100c1)]⟩)]⟩ H28 fun x101v H30 =>
 ∃ x101 : Int, x101v = (Value.int .i64 x101) ∧
 law02_PoolOnce_j4 x19 acts1a acts1n acts1c x23r0 x28r0 old9a_1 old9n_1 old9c_1 i10 k13 next8 next19 ((x101 : Int) != 5) H30 R))
 (FnW Try.prog f_pool_Pool_Free ⟨[(Value.pointer x23r0)]⟩ H27 fun x105v H31 =>
 ∃ x105 : Int, x105v = (Value.int .i64 x105) ∧
 FnW Try.prog f_pool_Pool_Lent ⟨[(Value.pointer x23r0)]⟩ H31 fun x107v H32 =>
 ∃ (x107a : Option Addr) (x107n x107c : Nat), x107v = (Value.slice x107a x107n x107c) ∧
 IfB (((IntKind.wrap .i64 (x105 + (x107n : Int))) : Int) != (IntKind.wrap .i64 (1 + x19)))
 (law02_PoolOnce_j5 x19 acts1a acts1n acts1c x23r0 x28r0 old9a_1 old9n_1 old9c_1 i10 next8 next19 true H32 R)
 (FnW Try.prog f_pool_Pool_Size ⟨[(Value.pointer x23r0)]⟩ H32 fun x114v H34 =>
 ∃ x114 : Int, x114v = (Value.int .i64 x114) ∧
 law02_PoolOnce_j5 x19 acts1a acts1n acts1c x23r0 x28r0 old9a_1 old9n_1 old9c_1 i10 next8 next19 ((x114 : Int) != (IntKind.wrap .i64 (1 + x19))) H34 R))
def law02_PoolOnce_j3 (x19 : Int) (acts1a : Option Addr) (acts1n : Nat) (acts1c : Nat) (x23r0 : Option Addr) (x28r0 : Option Addr) (old9a_1 : Option Addr) (old9n_1 : Nat) (old9c_1 : Nat) (i10 : Int) (next8 : ((Option Addr × Nat × Nat) × Int × Unit) → Heap → Prop) (H26 : Heap) (R : Value → Heap → Prop) : Prop :=
 LoopI (Int × Unit) (0, ()) H26 fun x H next => ∀ _g : Env, law02_PoolOnce_l19 x19 acts1a acts1n acts1c x23r0 x28r0 old9a_1 old9n_1 old9c_1 i10 next8 x.1 H next R
def law02_PoolOnce_j2 (x19 : Int) (acts1a : Option Addr) (acts1n : Nat) (acts1c : Nat) (x23r0 : Option Addr) (x28r0 : Option Addr) (i10 : Int) (next8 : ((Option Addr × Nat × Nat) × Int × Unit) → Heap → Prop) (old9a_1 : Option Addr) (old9n_1 : Nat) (old9c_1 : Nat) (H25 : Heap) (R : Value → Heap → Prop) : Prop :=
 law02_PoolOnce_j3 x19 acts1a acts1n acts1c x23r0 x28r0 old9a_1 old9n_1 old9c_1 i10 next8 H25 R
def law02_PoolOnce_j1 (x19 : Int) (acts1a : Option Addr) (acts1n : Nat) (acts1c : Nat) (x23r0 : Option Addr) (x28r0 : Option Addr) (old9a : Option Addr) (old9n : Nat) (old9c : Nat) (i10 : Int) (a11b : Nat) (h12b : Nat) (next8 : ((Option Addr × Nat × Nat) × Int × Unit) → Heap → Prop) (x58 : Bool) (H21 : Heap) (R : Value → Heap → Prop) : Prop :=
 IfB x58
 (∃ x61 : Int, H21.cell ⟨h12b, 0, none⟩ = some (Value.int .i64 x61) ∧
 ∃ x63 : Int, H21.cell ⟨h12b, 1, none⟩ = some (Value.int .i64 x63) ∧
 FnW Try.prog f_ref02_Pool_Give ⟨[(Value.pointer x28r0), (Value.agg ⟨[(Value.int .i64 x61), (Value.int .i64 x63)]⟩)]⟩ H21 fun x65v H22 =>
 ∃ x65 : Int, x65v = (Value.int .i64 x65) ∧
 ∃ x67c0 : Int, H22.cell ⟨h12b, 0, none⟩ = some (Value.int .i64 x67c0) ∧ ∃ x67c1 : Int, H22.cell ⟨h12b, 1, none⟩ = some (Value.int .i64 x67c1) ∧ NewW H22 (Obj.cells ⟨[(Value.int .i64 x67c0), (Value.int .i64 x67c1)]⟩ T_pool_Handle) fun x68b H23 =>
 AppW Try.prog #[T_sl_pool_Handle, T_sl_pool_Handle] T_sl_pool_Handle [(Value.slice old9a old9n old9c), (Value.slice (some ⟨x68b, 0, none⟩) 1 1)] H23 fun x69v H24 =>
 ∃ (x69a : Option Addr) (x69n x69c : Nat), x69v = (Value.slice x69a x69n x69c) ∧
 law02_PoolOnce_j2 x19 acts1a acts1n acts1c x23r0 x28r0 i10 next8 x69a x69n x69c H24 R)
 (∃ x71 : Int, H21.cell ⟨a11b, 0, none⟩ = some (Value.int .i64 x71) ∧
 FnW Try.prog f_base_Among ⟨[(Value.int .i64 x71), (Value.int .i64 5)]⟩ H21 fun x72v H35 =>
 ∃ x72 : Int, x72v = (Value.int .i64 x72) ∧
 IfB (decide ((x72 : Int) < 2))
 (FnW Try.prog f_pool_Pool_Lend ⟨[(Value.pointer x23r0), (Value.slice none 0 0)]⟩ H35 fun x75v H36 =>
 ∃ x75r0c0 : Int, ∃ x75r0c1 : Int, ∃ x75r1 : Int, x75v = (Value.tuple ⟨[(Value.agg ⟨[(Value.int .i64 x75r0c0), (Value.int .i64 x75r0c1)]⟩), (Value.int .i64 x75r1)]⟩) ∧
 FnW Try.prog f_ref02_Pool_Lend ⟨[(Value.pointer x28r0), (Value.slice none 0 0)]⟩ H36 fun x77v H37 =>
 ∃ x77r0c0 : Int, ∃ x77r0c1 : Int, ∃ x77r1 : Int, x77v = (Value.tuple ⟨[(Value.agg ⟨[(Value.int .i64 x77r0c0), (Value.int .i64 x77r0c1)]⟩), (Value.int .i64 x77r1)]⟩) ∧
 law02_PoolOnce_j2 x19 acts1a acts1n acts1c x23r0 x28r0 i10 next8 old9a old9n old9c H37 R)
 (law02_PoolOnce_j2 x19 acts1a acts1n acts1c x23r0 x28r0 i10 next8 old9a old9n old9c H35 R))
def law02_PoolOnce_j0 (x19 : Int) (acts1a : Option Addr) (acts1n : Nat) (acts1c : Nat) (x23r0 : Option Addr) (x28r0 : Option Addr) (old9a : Option Addr) (old9n : Nat) (old9c : Nat) (i10 : Int) (next8 : ((Option Addr × Nat × Nat) × Int × Unit) → Heap → Prop) (x39 : Bool) (H7 : Heap) (R : Value → Heap → Prop) : Prop :=
 IfB x39
 (NilP acts1a fun x44q =>
 InB i10 acts1n fun x44i =>
 elemAt x44q x44i 6 fun x44p =>
 ∃ x45c0 : Int, H7.cell x44p = some (Value.int .i64 x45c0) ∧ ∃ x45c1 : Int, H7.cell ⟨x44p.block, x44p.off + 1, none⟩ = some (Value.int .i64 x45c1) ∧ ∃ x45c2 : Bool, H7.cell ⟨x44p.block, x44p.off + 2, none⟩ = some (Value.bool x45c2) ∧ ∃ x45c3 : Int, H7.cell ⟨x44p.block, x44p.off + 3, none⟩ = some (Value.int .i64 x45c3) ∧ ∃ x45c4 : Int, H7.cell ⟨x44p.block, x44p.off + 4, none⟩ = some (Value.int .i64 x45c4) ∧ ∃ (x45c5a : Option Addr) (x45c5n x45c5c : Nat), H7.cell ⟨x44p.block, x44p.off + 5, none⟩ = some (Value.slice x45c5a x45c5n x45c5c) ∧ NewW H7 (Obj.cells ⟨[(Value.int .i64 0), (Value.int .i64 0), (Value.bool false), (Value.int .i64 0), (Value.int .i64 0), (Value.slice none 0 0)]⟩ T_law02_Act) fun a11b H8 =>
 StCell H8 ⟨a11b, 0, none⟩ (Value.int .i64 x45c0) fun H9 =>
 StCell H9 ⟨a11b, 1, none⟩ (Value.int .i64 x45c1) fun H10 =>
 StCell H10 ⟨a11b, 2, none⟩ (Value.bool x45c2) fun H11 =>
 StCell H11 ⟨a11b, 3, none⟩ (Value.int .i64 x45c3) fun H12 =>
 StCell H12 ⟨a11b, 4, none⟩ (Value.int .i64 x45c4) fun H13 =>
 StCell H13 ⟨a11b, 5, none⟩ (Value.slice x45c5a x45c5n x45c5c) fun H14 =>
 ∃ x47c0 : Int, H14.cell ⟨a11b, 0, none⟩ = some (Value.int .i64 x47c0) ∧ ∃ x47c1 : Int, H14.cell ⟨a11b, 1, none⟩ = some (Value.int .i64 x47c1) ∧ ∃ x47c2 : Bool, H14.cell ⟨a11b, 2, none⟩ = some (Value.bool x47c2) ∧ ∃ x47c3 : Int, H14.cell ⟨a11b, 3, none⟩ = some (Value.int .i64 x47c3) ∧ ∃ x47c4 : Int, H14.cell ⟨a11b, 4, none⟩ = some (Value.int .i64 x47c4) ∧ ∃ (x47c5a : Option Addr) (x47c5n x47c5c : Nat), H14.cell ⟨a11b, 5, none⟩ = some (Value.slice x47c5a x47c5n x47c5c) ∧ FnW Try.prog f_law02_handle ⟨[(Value.pointer x28r0), (Value.agg ⟨[(Value.int .i64 x47c0), (Value.int .i64 x47c1), (Value.bool x47c2), (Value.int .i64 x47c3), (Value.int .i64 x47c4), (Value.slice x47c5a x47c5n x47c5c)]⟩)]⟩ H14 fun x48v H15 =>
 ∃ x48c0 : Int, ∃ x48c1 : Int, x48v = (Value.agg ⟨[(Value.int .i64 x48c0), (Value.int .i64 x48c1)]⟩) ∧
 NewW H15 (Obj.cells ⟨[(Value.int .i64 0), (Value.int .i64 0)]⟩ T_pool_Handle) fun h12b H16 =>
 StCell H16 ⟨h12b, 0, none⟩ (Value.int .i64 x48c0) fun H17 =>
 StCell H17 ⟨h12b, 1, none⟩ (Value.int .i64 x48c1) fun H18 =>
 ∃ x50 : Int, H18.cell ⟨a11b, 0, none⟩ = some (Value.int .i64 x50) ∧
 FnW Try.prog f_base_Among ⟨[(Value.int .i64 x50), (Value.int .i64 5)]⟩ H18 fun x51v H19 =>
 ∃ x51 : Int, x51v = (Value.int .i64 x51) ∧
 IfB ((x51 : Int) == 4)
 (∃ x55c0 : Int, H19.cell ⟨h12b, 0, none⟩ = some (Value.int .i64 x55c0) ∧ ∃ x55c1 : Int, H19.cell ⟨h12b, 1, none⟩ = some (Value.int .i64 x55c1) ∧ FnW Try.prog f_pool_Pool_Give ⟨[(Value.pointer x23r0), (Value.agg ⟨[(Value.int .i64 x55c0), (Value.int .i64 x55c1)]⟩)]⟩ H19 fun x56v H20 =>
 ∃ x56 : Int, x56v = (Value.int .i64 x56) ∧
 law02_PoolOnce_j1 x19 acts1a acts1n acts1c x23r0 x28r0 old9a old9n old9c i10 a11b h12b next8 ((x56 : Int) == 0) H20 R)
 (law02_PoolOnce_j1 x19 acts1a acts1n acts1c x23r0 x28r0 old9a old9n old9c i10 a11b h12b next8 false H19 R))
 (R (Value.bool true) H7)
def law02_PoolOnce_l8 (x19 : Int) (acts1a : Option Addr) (acts1n : Nat) (acts1c : Nat) (x23r0 : Option Addr) (x28r0 : Option Addr) (old9a : Option Addr) (old9n : Nat) (old9c : Nat) (i10 : Int) (H6 : Heap) (next8 : ((Option Addr × Nat × Nat) × Int × Unit) → Heap → Prop) (R : Value → Heap → Prop) : Prop :=
 IfB (decide ((i10 : Int) < (acts1n : Int)))
 (law02_PoolOnce_j0 x19 acts1a acts1n acts1c x23r0 x28r0 old9a old9n old9c i10 next8 (decide ((i10 : Int) < 40)) H6 R)
 (law02_PoolOnce_j0 x19 acts1a acts1n acts1c x23r0 x28r0 old9a old9n old9c i10 next8 false H6 R)
def law02_PoolOnce_p (n0 : Int) (acts1a : Option Addr) (acts1n : Nat) (acts1c : Nat) (H : Heap) (R : Value → Heap → Prop) : Prop :=
 FnW Try.prog f_law02_works ⟨[]⟩ H fun x16v H1 =>
 ∃ x16 : Bool, x16v = (Value.bool x16) ∧
 IfB (!x16)
 (R (Value.bool false) H1)
 (FnW Try.prog f_base_Among ⟨[(Value.int .i64 n0), (Value.int .i64 8)]⟩ H1 fun x19v H2 =>
 ∃ x19 : Int, x19v = (Value.int .i64 x19) ∧
 FnW Try.prog f_pool_Make ⟨[(Value.int .i64 (IntKind.wrap .i64 (1 + x19)))]⟩ H2 fun x23v H3 =>
 ∃ x23r0 : Option Addr, ∃ x23r1 : Int, x23v = (Value.tuple ⟨[(Value.pointer x23r0), (Value.int .i64 x23r1)]⟩) ∧
 FnW Try.prog f_ref02_Make ⟨[(Value.int .i64 (IntKind.wrap .i64 (1 + x19)))]⟩ H3 fun x28v H4 =>
 ∃ x28r0 : Option Addr, ∃ x28r1 : Int, x28v = (Value.tuple ⟨[(Value.pointer x28r0), (Value.int .i64 x28r1)]⟩) ∧
 NewW H4 (Obj.cells ⟨[]⟩ T_pool_Handle) fun x31b H5 =>
 LoopI ((Option Addr × Nat × Nat) × Int × Unit) (((some ⟨x31b, 0, none⟩), 0, 0), (0, ())) H5 fun x H next => ∀ _g : Env, law02_PoolOnce_l8 x19 acts1a acts1n acts1c x23r0 x28r0 x.1.1 x.1.2.1 x.1.2.2 x.2.1 H next R)
theorem law02_PoolOnce_eq (n0 : Int) (acts1a : Option Addr) (acts1n : Nat) (acts1c : Nat) (H : Heap) (R : Value → Heap → Prop) : law02_PoolOnce_p n0 acts1a acts1n acts1c H R = CodeW Try.prog plan_law02_PoolOnce (bodyOf Try.f4) (env0 [(Value.int .i64 n0), (Value.slice acts1a acts1n acts1c)]) H (RetW Try.prog Try.f4.results.toList R) := by kernel_rfl
theorem law02_PoolOnce_sh (n0 : Int) (acts1a : Option Addr) (acts1n : Nat) (acts1c : Nat) {H : Heap} {R : Value → Heap → Prop} (h : law02_PoolOnce_p n0 acts1a acts1n acts1c H R) : FnW Try.prog f_law02_PoolOnce ⟨[(Value.int .i64 n0), (Value.slice acts1a acts1n acts1c)]⟩ H R := FnW.of_code k_law02_PoolOnce rfl (Eq.mp (law02_PoolOnce_eq n0 acts1a acts1n acts1c H R) h)
def plan_law02_PoolPlays : Plan := ⟨[], [(8, [9], [.int .i64], [1, 5, 7])]⟩
theorem k_law02_PoolPlays : Known Try.prog f_law02_PoolPlays Try.f5 plan_law02_PoolPlays (bodyOf Try.f5) := ⟨Try.func5, by kernel_rfl, by kernel_rfl, by kernel_rfl, by kernel_rfl, by kernel_rfl⟩
def law02_PoolPlays_j2 (acts1a : Option Addr) (acts1n : Nat) (acts1c : Nat) (x12r0 : Option Addr) (x17r0 : Option Addr) (i9 : Int) (next8 : (Int × Unit) → Heap → Prop) (x56 : Bool) (H8 : Heap) (R : Value → Heap → Prop) : Prop :=
 IfB x56
 (R (Value.bool false) H8)
 (next8 ((IntKind.wrap .i64 (i9 + 1)), ()) H8)
def law02_PoolPlays_j1 (acts1a : Option Addr) (acts1n : Nat) (acts1c : Nat) (x12r0 : Option Addr) (x17r0 : Option Addr) (i9 : Int) (next8 : (Int × Unit) → Heap → Prop) (x40 : Bool) (H6 : Heap) (R : Value → Heap → Prop) : Prop :=
 IfB x40
 (NilP acts1a fun x47q =>
 InB i9 acts1n fun x47i =>
 elemAt x47q x47i 6 fun x47p =>
 ∃ x48c0 : Int, H6.cell x47p = some (Value.int .i64 x48c0) ∧ ∃ x48c1 : Int, H6.cell ⟨x47p.block, x47p.off + 1, none⟩ = some (Value.int .i64 x48c1) ∧ ∃ x48c2 : Bool, H6.cell ⟨x47p.block, x47p.off + 2, none⟩ = some (Value.bool x48c2) ∧ ∃ x48c3 : Int, H6.cell ⟨x47p.block, x47p.off + 3, none⟩ = some (Value.int .i64 x48c3) ∧ ∃ x48c4 : Int, H6.cell ⟨x47p.block, x47p.off + 4, none⟩ = some (Value.int .i64 x48c4) ∧ ∃ (x48c5a : Option Addr) (x48c5n x48c5c : Nat), H6.cell ⟨x47p.block, x47p.off + 5, none⟩ = some (Value.slice x48c5a x48c5n x48c5c) ∧ FnW Try.prog f_law02_do ⟨[(Value.pointer x12r0), (Value.pointer x17r0), (Value.agg ⟨[(Value.int .i64 x48c0), (Value.int .i64 x48c1), (Value.bool x48c2), (Value.int .i64 x48c3), (Value.int .i64 x48c4), (Value.slice x48c5a x48c5n x48c5c)]⟩)]⟩ H6 fun x49v H7 =>
 ∃ x49 : Bool, x49v = (Value.bool x49) ∧
 IfB (!x49)
 (law02_PoolPlays_j2 acts1a acts1n acts1c x12r0 x17r0 i9 next8 true H7 R)
 (FnW Try.prog f_law02_same ⟨[(Value.pointer x12r0), (Value.pointer x17r0)]⟩ H7 fun x54v H9 =>
 ∃ x54 : Bool, x54v = (Value.bool x54) ∧
 law02_PoolPlays_j2 acts1a acts1n acts1c x12r0 x17r0 i9 next8 (!x54) H9 R))
 (FnW Try.prog f_law02_works ⟨[]⟩ H6 fun x57v H10 =>
 ∃ x57 : Bool, x57v = (Value.bool x57) ∧
 R (Value.bool x57) H10)
def law02_PoolPlays_l8 (acts1a : Option Addr) (acts1n : Nat) (acts1c : Nat) (x12r0 : Option Addr) (x17r0 : Option Addr) (i9 : Int) (H5 : Heap) (next8 : (Int × Unit) → Heap → Prop) (R : Value → Heap → Prop) : Prop :=
 IfB (decide ((i9 : Int) < (acts1n : Int)))
 (law02_PoolPlays_j1 acts1a acts1n acts1c x12r0 x17r0 i9 next8 (decide ((i9 : Int) < 60)) H5 R)
 (law02_PoolPlays_j1 acts1a acts1n acts1c x12r0 x17r0 i9 next8 false H5 R)
def law02_PoolPlays_j0 (acts1a : Option Addr) (acts1n : Nat) (acts1c : Nat) (x12r0 : Option Addr) (x17r0 : Option Addr) (x29 : Bool) (H3 : Heap) (R : Value → Heap → Prop) : Prop :=
 IfB x29
 (R (Value.bool false) H3)
 (IfB x17r0.isNone
 (FnW Try.prog f_law02_works ⟨[]⟩ H3 fun x32v H4 =>
 ∃ x32 : Bool, x32v = (Value.bool x32) ∧
 R (Value.bool x32) H4)
 (LoopI (Int × Unit) (0, ()) H3 fun x H next => ∀ _g : Env, law02_PoolPlays_l8 acts1a acts1n acts1c x12r0 x17r0 x.1 H next R))
def law02_PoolPlays_p (n0 : Int) (acts1a : Option Addr) (acts1n : Nat) (acts1c : Nat) (H : Heap) (R : Value → Heap → Prop) : Prop :=
 FnW Try.prog f_pool_Make ⟨[(Value.int .i64 n0)]⟩ H fun x12v H1 =>
 ∃ x12r0 : Option Addr, ∃ x12r1 : Int, x12v = (Value.tuple ⟨[(Value.pointer x12r0), (Value.int .i64 x12r1)]⟩) ∧
 FnW Try.prog f_ref02_Make ⟨[(Value.int .i64 n0)]⟩ H1 fun x17v H2 =>
 ∃ x17r0 : Option Addr, ∃ x17r1 : Int, x17v = (Value.tuple ⟨[(Value.pointer x17r0), (Value.int .i64 x17r1)]⟩) ∧
 IfB ((x12r1 : Int) != x17r1)
 (law02_PoolPlays_j0 acts1a acts1n acts1c x12r0 x17r0 true H2 R)
 (law02_PoolPlays_j0 acts1a acts1n acts1c x12r0 x17r0 (!(x12r0.isNone == x17r0.isNone)) H2 R)
theorem law02_PoolPlays_eq (n0 : Int) (acts1a : Option Addr) (acts1n : Nat) (acts1c : Nat) (H : Heap) (R : Value → Heap → Prop) : law02_PoolPlays_p n0 acts1a acts1n acts1c H R = CodeW Try.prog plan_law02_PoolPlays (bodyOf Try.f5) (env0 [(Value.int .i64 n0), (Value.slice acts1a acts1n acts1c)]) H (RetW Try.prog Try.f5.results.toList R) := by kernel_rfl
theorem law02_PoolPlays_sh (n0 : Int) (acts1a : Option Addr) (acts1n : Nat) (acts1c : Nat) {H : Heap} {R : Value → Heap → Prop} (h : law02_PoolPlays_p n0 acts1a acts1n acts1c H R) : FnW Try.prog f_law02_PoolPlays ⟨[(Value.int .i64 n0), (Value.slice acts1a acts1n acts1c)]⟩ H R := FnW.of_code k_law02_PoolPlays rfl (Eq.mp (law02_PoolPlays_eq n0 acts1a acts1n acts1c H R) h)
def plan_law02_PoolVoid : Plan := ⟨[], []⟩
theorem k_law02_PoolVoid : Known Try.prog f_law02_PoolVoid Try.f6 plan_law02_PoolVoid (bodyOf Try.f6) := ⟨Try.func6, by kernel_rfl, by kernel_rfl, by kernel_rfl, by kernel_rfl, by kernel_rfl⟩
def law02_PoolVoid_p (h0c0 : Int) (h0c1 : Int) (b1a : Option Addr) (b1n : Nat) (b1c : Nat) (H : Heap) (R : Value → Heap → Prop) : Prop :=
 NewW H (Obj.cells ⟨[(Value.int .i64 h0c0), (Value.int .i64 h0c1)]⟩ T_pool_Handle) fun h2b H1 =>
 FnW Try.prog f_law02_works ⟨[]⟩ H1 fun x15v H2 =>
 ∃ x15 : Bool, x15v = (Value.bool x15) ∧
 IfB (!x15)
 (R (Value.bool false) H2)
 (NewW H2 (Obj.cells ⟨zl_T_pool_Pool⟩ T_pool_Pool) fun z6b H3 =>
 FnW Try.prog f_pool_Pool_Lend ⟨[(Value.pointer none), (Value.slice b1a b1n b1c)]⟩ H3 fun x20v H4 =>
 ∃ x20r0c0 : Int, ∃ x20r0c1 : Int, ∃ x20r1 : Int, x20v = (Value.tuple ⟨[(Value.agg ⟨[(Value.int .i64 x20r0c0), (Value.int .i64 x20r0c1)]⟩), (Value.int .i64 x20r1)]⟩) ∧
 NewW H4 (Obj.cells ⟨[(Value.int .i64 0), (Value.int .i64 0)]⟩ T_pool_Handle) fun x7b H5 =>
 StCell H5 ⟨x7b, 0, none⟩ (Value.int .i64 x20r0c0) fun H6 =>
 StCell H6 ⟨x7b, 1, none⟩ (Value.int .i64 x20r0c1) fun H7 =>
 FnW Try.prog f_pool_Pool_Lend ⟨[(Value.pointer (some ⟨z6b, 0, none⟩)), (Value.slice b1a b1n b1c)]⟩ H7 fun x25v H8 =>
 ∃ x25r0c0 : Int, ∃ x25r0c1 : Int, ∃ x25r1 : Int, x25v = (Value.tuple ⟨[(Value.agg ⟨[(Value.int .i64 x25r0c0), (Value.int .i64 x25r0c1)]⟩), (Value.int .i64 x25r1)]⟩) ∧
 NewW H8 (Obj.cells ⟨[(Value.int .i64 0), (Value.int .i64 0)]⟩ T_pool_Handle) fun x9b H9 =>
 StCell H9 ⟨x9b, 0, none⟩ (Value.int .i64 x25r0c0) fun H10 =>
 StCell H10 ⟨x9b, 1, none⟩ (Value.int .i64 x25r0c1) fun H11 =>
 ∃ x30c0 : Int, H11.cell ⟨h2b, 0, none⟩ = some (Value.int .i64 x30c0) ∧ ∃ x30c1 : Int, H11.cell ⟨h2b, 1, none⟩ = some (Value.int .i64 x30c1) ∧ FnW Try.prog f_pool_Pool_Read ⟨[(Value.pointer none), (Value.agg ⟨[(Value.int .i64 x30c0), (Value.int .i64 x30c1)]⟩)]⟩ H11 fun x31v H12 =>
 ∃ (x31r0a : Option Addr) (x31r0n x31r0c : Nat), ∃ x31r1 : Int, x31v = (Value.tuple ⟨[(Value.slice x31r0a x31r0n x31r0c), (Value.int .i64 x31r1)]⟩) ∧
 ∃ x35c0 : Int, H12.cell ⟨h2b, 0, none⟩ = some (Value.int .i64 x35c0) ∧ ∃ x35c1 : Int, H12.cell ⟨h2b, 1, none⟩ = some (Value.int .i64 x35c1) ∧ FnW Try.prog f_pool_Pool_Read ⟨[(Value.pointer (some ⟨z6b, 0, none⟩)), (Value.agg ⟨[(Value.int .i64 x35c0), (Value.int .i64 x35c1)]⟩)]⟩ H12 fun x36v H13 =>
 ∃ (x36r0a : Option Addr) (x36r0n x36r0c : Nat), ∃ x36r1 : Int, x36v = (Value.tuple ⟨[(Value.slice x36r0a x36r0n x36r0c), (Value.int .i64 x36r1)]⟩) ∧
 IfB ((x20r1 : Int) == 1)
 (IfB ((x25r1 : Int) == x20r1)
 (IfB ((x31r1 : Int) == x20r1)
 (IfB ((x36r1 : Int) == x20r1)
 (∃ x58c0 : Int, H13.cell ⟨h2b, 0, none⟩ = some (Value.int .i64 x58c0) ∧ ∃ x58c1 : Int, H13.cell ⟨h2b, 1, none⟩ = some (Value.int .i64 x58c1) ∧ FnW Try.prog f_pool_Pool_Write ⟨[(Value.pointer none), (Value.agg ⟨[(Value.int .i64 x58c0), (Value.int .i64 x58c1)]⟩), (Value.slice b1a b1n b1c)]⟩ H13 fun x60v H14 =>
 ∃ x60 : Int, x60v = (Value.int .i64 x60) ∧
 IfB ((x60 : Int) == x20r1)
 (∃ x65c0 : Int, H14.cell ⟨h2b, 0, none⟩ = some (Value.int .i64 x65c0) ∧ ∃ x65c1 : Int, H14.cell ⟨h2b, 1, none⟩ = some (Value.int .i64 x65c1) ∧ FnW Try.prog f_pool_Pool_Write ⟨[(Value.pointer (some ⟨z6b, 0, none⟩)), (Value.agg ⟨[(Value.int .i64 x65c0), (Value.int .i64 x65c1)]⟩), (Value.slice b1a b1n b1c)]⟩ H14 fun x67v H15 =>
 ∃ x67 : Int, x67v = (Value.int .i64 x67) ∧
 IfB ((x67 : Int) == x20r1)
 (∃ x73c0 : Int, H15.cell ⟨h2b, 0, none⟩ = some (Value.int .i64 x73c0) ∧ ∃ x73c1 : Int, H15.cell ⟨h2b, 1, none⟩ = some (Value.int .i64 x73c1) ∧ FnW Try.prog f_pool_Pool_Give ⟨[(Value.pointer none), (Value.agg ⟨[(Value.int .i64 x73c0), (Value.int .i64 x73c1)]⟩)]⟩ H15 fun x74v H16 =>
 ∃ x74 : Int, x74v = (Value.int .i64 x74) ∧
 IfB ((x74 : Int) == x20r1)
 (∃ x79c0 : Int, H16.cell ⟨h2b, 0, none⟩ = some (Value.int .i64 x79c0) ∧ ∃ x79c1 : Int, H16.cell ⟨h2b, 1, none⟩ = some (Value.int .i64 x79c1) ∧ FnW Try.prog f_pool_Pool_Give ⟨[(Value.pointer (some ⟨z6b, 0, none⟩)), (Value.agg ⟨[(Value.int .i64 x79c0), (Value.int .i64 x79c1)]⟩)]⟩ H16 fun x80v H17 =>
 ∃ x80 : Int, x80v = (Value.int .i64 x80) ∧
 IfB ((x80 : Int) == x20r1)
 (FnW Try.prog f_pool_Pool_Free ⟨[(Value.pointer none)]⟩ H17 fun x86v H18 =>
 ∃ x86 : Int, x86v = (Value.int .i64 x86) ∧
 FnW Try.prog f_pool_Pool_Free ⟨[(Value.pointer (some ⟨z6b, 0, none⟩))]⟩ H18 fun x87v H19 =>
 ∃ x87 : Int, x87v = (Value.int .i64 x87) ∧
 FnW Try.prog f_pool_Pool_Size ⟨[(Value.pointer none)]⟩ H19 fun x90v H20 =>
 ∃ x90 : Int, x90v = (Value.int .i64 x90) ∧
 FnW Try.prog f_pool_Pool_Size ⟨[(Value.pointer (some ⟨z6b, 0, none⟩))]⟩ H20 fun x92v H21 =>
 ∃ x92 : Int, x92v = (Value.int .i64 x92) ∧
 FnW Try.prog f_pool_Pool_Lent ⟨[(Value.pointer none)]⟩ H21 fun x95v H22 =>
 ∃ (x95a : Option Addr) (x95n x95c : Nat), x95v = (Value.slice x95a x95n x95c) ∧
 FnW Try.prog f_pool_Pool_Lent ⟨[(Value.pointer (some ⟨z6b, 0, none⟩))]⟩ H22 fun x98v H23 =>
 ∃ (x98a : Option Addr) (x98n x98c : Nat), x98v = (Value.slice x98a x98n x98c) ∧
 R (Value.bool (((IntKind.wrap .i64 ((IntKind.wrap .i64 ((IntKind.wrap .i64 ((IntKind.wrap .i64 ((IntKind.wrap .i64 (x86 + x87)) + x90)) + x92)) + (x95n : Int))) + (x98n : Int))) : Int) == 0)) H23)
 (R (Value.bool false) H17))
 (R (Value.bool false) H16))
 (R (Value.bool false) H15))
 (R (Value.bool false) H14))
 (R (Value.bool false) H13))
 (R (Value.bool false) H13))
 (R (Value.bool false) H13))
 (R (Value.bool false) H13))
theorem law02_PoolVoid_eq (h0c0 : Int) (h0c1 : Int) (b1a : Option Addr) (b1n : Nat) (b1c : Nat) (H : Heap) (R : Value → Heap → Prop) : law02_PoolVoid_p h0c0 h0c1 b1a b1n b1c H R = CodeW Try.prog plan_law02_PoolVoid (bodyOf Try.f6) (env0 [(Value.agg ⟨[(Value.int .i64 h0c0), (Value.int .i64 h0c1)]⟩), (Value.slice b1a b1n b1c)]) H (RetW Try.prog Try.f6.results.toList R) := by kernel_rfl
theorem law02_PoolVoid_sh (h0c0 : Int) (h0c1 : Int) (b1a : Option Addr) (b1n : Nat) (b1c : Nat) {H : Heap} {R : Value → Heap → Prop} (h : law02_PoolVoid_p h0c0 h0c1 b1a b1n b1c H R) : FnW Try.prog f_law02_PoolVoid ⟨[(Value.agg ⟨[(Value.int .i64 h0c0), (Value.int .i64 h0c1)]⟩), (Value.slice b1a b1n b1c)]⟩ H R := FnW.of_code k_law02_PoolVoid rfl (Eq.mp (law02_PoolVoid_eq h0c0 h0c1 b1a b1n b1c H R) h)
def plan_law03_RingOrder : Plan := ⟨[], [(8, [9, 10, 11, 12], [.int .i64, .int .i64, .int .i64, .int .i64], [0, 1, 5, 7])]⟩
theorem k_law03_RingOrder : Known Try.prog f_law03_RingOrder Try.f7 plan_law03_RingOrder (bodyOf Try.f7) := ⟨Try.func7, by kernel_rfl, by kernel_rfl, by kernel_rfl, by kernel_rfl, by kernel_rfl⟩
def law03_RingOrder_j2 (x19 : Int) (turns1a : Option Addr) (turns1n : Nat) (turns1c : Nat) (x23r0 : Option Addr) (x27r0 : Option Addr) (reaped11_1 : Int) (i12 : Int) (next8 : (Int × Int × Int × Int × Unit) → Heap → Prop) (posted9_2 : Int) (done10_2 : Int) (x134 : Bool) (H11 : Heap) (R : Value → Heap → Prop) : Prop :=
 IfB x134
 (R (Value.bool false) H11)
 (next8 (posted9_2, (done10_2, (reaped11_1, ((IntKind.wrap .i64 (i12 + 1)), ())))) H11)
def law03_RingOrder_j1 (x19 : Int) (turns1a : Option Addr) (turns1n : Nat) (turns1c : Nat) (x23r0 : Option Addr) (x27r0 : Option Addr) (i12 : Int) (next8 : (Int × Int × Int × Int × Unit) → Heap → Prop) (posted9_1 : Int) (done10_1 : Int) (reaped11_1 : Int) (H9 : Heap) (R : Value → Heap → Prop) : Prop :=
 FnW Try.prog f_ring_Ring_Slots ⟨[(Value.pointer x23r0)]⟩ H9 fun x103v H10 =>
 ∃ (x103a : Option Addr) (x103n x103c : Nat), x103v = (Value.slice x103a x103n x103c) ∧
 IfB (((x103n : Int) : Int) != (IntKind.wrap .i64 (1 + x19)))
 (law03_RingOrder_j2 x19 turns1a turns1n turns1c x23r0 x27r0 reaped11_1 i12 next8 posted9_1 done10_1 true H10 R)
 (FnW Try.prog f_ring_Ring_Count ⟨[(Value.pointer x23r0), (Value.int .i64 0)]⟩ H10 fun x109v H12 =>
 ∃ x109 : Int, x109v = (Value.int .i64 x109) ∧
 FnW Try.prog f_ring_Ring_Count ⟨[(Value.pointer x23r0), (Value.int .i64 1)]⟩ H12 fun x111v H13 =>
 ∃ x111 : Int, x111v = (Value.int .i64 x111) ∧
 FnW Try.prog f_ring_Ring_Count ⟨[(Value.pointer x23r0), (Value.int .i64 2)]⟩ H13 fun x114v H14 =>
 ∃ x114 : Int, x114v = (Value.int .i64 x114) ∧
 IfB (((IntKind.wrap .i64 ((IntKind.wrap .i64 (x109 + x111)) + x114)) : Int) != (IntKind.wrap .i64 (1 + x19)))
 (law03_RingOrder_j2 x19 turns1a turns1n turns1c x23r0 x27r0 reaped11_1 i12 next8 posted9_1 done10_1 true H14 R)
 (FnW Try.prog f_ring_Ring_Count ⟨[(Value.pointer x23r0), (Value.int .i64 1)]⟩ H14 fun x121v H15 =>
 ∃ x121 : Int, x121v = (Value.int .i64 x121) ∧
 IfB ((x121 : Int) != (IntKind.wrap .i64 (posted9_1 - done10_1)))
 (law03_RingOrder_j2 x19 turns1a turns1n turns1c x23r0 x27r0 reaped11_1 i12 next8 posted9_1 done10_1 true H15 R)
 (FnW Try.prog f_ring_Ring_Count ⟨[(Value.pointer x23r0), (Value.int .i64 2)]⟩ H15 fun x129v H16 =>
 ∃ x129 : Int, x129v = (Value.int .i64 x129) ∧
 law03_RingOrder_j2 x19 turns1a turns1n turns1c x23r0 x27r0 reaped11_1 i12 next8 posted9_1 done10_1 ((x129 : Int) != (IntKind.wrap .i64 (done10_1 - reaped11_1))) H16 R)))
def law03_RingOrder_j3 (x19 : Int) (turns1a : Option Addr) (turns1n : Nat) (turns1c : Nat) (x23r0 : Option Addr) (x27r0 : Option Addr) (posted9 : Int) (done10 : Int) (reaped11 : Int) (i12 : Int) (next8 : (Int × Int × Int × Int × Unit) → Heap → Prop) (x65 : Bool) (H22 : Heap) (R : Value → Heap → Prop) : Prop :=
 IfB x65
 (R (Value.bool false) H22)
 (law03_RingOrder_j1 x19 turns1a turns1n turns1c x23r0 x27r0 i12 next8 posted9 done10 (min (IntKind.wrap .i64 (reaped11 + 1)) done10) H22 R)
def law03_RingOrder_j0 (x19 : Int) (turns1a : Option Addr) (turns1n : Nat) (turns1c : Nat) (x23r0 : Option Addr) (x27r0 : Option Addr) (posted9 : Int) (done10 : Int) (reaped11 : Int) (i12 : Int) (next8 : (Int × Int × Int × Int × Unit) → Heap → Prop) (x37 : Bool) (H6 : Heap) (R : Value → Heap → Prop) : Prop :=
 IfB x37
 (NilP turns1a fun x42q =>
 InB i12 turns1n fun x42i =>
 elemAt x42q x42i 1 fun x42p =>
 ∃ x43 : Int, H6.cell x42p = some (Value.int .i64 x43) ∧
 FnW Try.prog f_base_Among ⟨[(Value.int .i64 x43), (Value.int .i64 3)]⟩ H6 fun x44v H7 =>
 ∃ x44 : Int, x44v = (Value.int .i64 x44) ∧
 IfB ((x44 : Int) == 0)
 (FnW Try.prog f_ring_Ring_Post ⟨[(Value.pointer x23r0), (Value.agg ⟨[(Value.int .i64 posted9), (Value.int .i64 7)]⟩)]⟩ H7 fun x75v H8 =>
 ∃ x75 : Int, x75v = (Value.int .i64 x75) ∧
 IfB (!(((x75 : Int) == 0) == (decide (((IntKind.wrap .i64 (posted9 - reaped11)) : Int) < (IntKind.wrap .i64 (1 + x19))))))
 (R (Value.bool false) H8)
 (IfB ((x75 : Int) == 0)
 (law03_RingOrder_j1 x19 turns1a turns1n turns1c x23r0 x27r0 i12 next8 (IntKind.wrap .i64 (posted9 + 1)) done10 reaped11 H8 R)
 (law03_RingOrder_j1 x19 turns1a turns1n turns1c x23r0 x27r0 i12 next8 posted9 done10 reaped11 H8 R)))
 (IfB ((x44 : Int) == 1)
 (FnW Try.prog f_ring_Ring_Fill ⟨[(Value.pointer x23r0), (Value.pointer x27r0), (Value.slice none 0 0)]⟩ H7 fun x92v H17 =>
 ∃ x92 : Int, x92v = (Value.int .i64 x92) ∧
 IfB (!(((x92 : Int) != 30) == (decide ((done10 : Int) < posted9))))
 (R (Value.bool false) H17)
 (law03_RingOrder_j1 x19 turns1a turns1n turns1c x23r0 x27r0 i12 next8 posted9 (min (IntKind.wrap .i64 (done10 + 1)) posted9) reaped11 H17 R))
 (FnW Try.prog f_ring_Ring_Reap ⟨[(Value.pointer x23r0)]⟩ H7 fun x47v H18 =>
 ∃ x47r0c0 : Int, ∃ x47r0c1 : Int, ∃ x47r1 : Int, x47v = (Value.tuple ⟨[(Value.agg ⟨[(Value.int .i64 x47r0c0), (Value.int .i64 x47r0c1)]⟩), (Value.int .i64 x47r1)]⟩) ∧
 NewW H18 (Obj.cells ⟨[(Value.int .i64 0), (Value.int .i64 0)]⟩ T_pool_Handle) fun h14b H19 =>
 StCell H19 ⟨h14b, 0, none⟩ (Value.int .i64 x47r0c0) fun H20 =>
 StCell H20 ⟨h14b, 1, none⟩ (Value.int .i64 x47r0c1) fun H21 =>
 IfB (!(((x47r1 : Int) == 0) == (decide ((reaped11 : Int) < done10))))
 (law03_RingOrder_j3 x19 turns1a turns1n turns1c x23r0 x27r0 posted9 done10 reaped11 i12 next8 true H21 R)
 (IfB ((x47r1 : Int) == 0)
 (∃ x60c0 : Int, H21.cell ⟨h14b, 0, none⟩ = some (Value.int .i64 x60c0) ∧ ∃ x60c1 : Int, H21.cell ⟨h14b, 1, none⟩ = some (Value.int .i64 x60c1) ∧ Program.eqGuardType Try.prog (Program.depth Try.prog) T_pool_Handle = false ∧
 law03_RingOrder_j3 x19 turns1a turns1n turns1c x23r0 x27r0 posted9 done10 reaped11 i12 next8 (!(((x60c0 : Int) == reaped11) && (((x60c1 : Int) == 7) && true))) H21 R)
 (law03_RingOrder_j3 x19 turns1a turns1n turns1c x23r0 x27r0 posted9 done10 reaped11 i12 next8 false H21 R)))))
 (R (Value.bool true) H6)
def law03_RingOrder_l8 (x19 : Int) (turns1a : Option Addr) (turns1n : Nat) (turns1c : Nat) (x23r0 : Option Addr) (x27r0 : Option Addr) (posted9 : Int) (done10 : Int) (reaped11 : Int) (i12 : Int) (H5 : Heap) (next8 : (Int × Int × Int × Int × Unit) → Heap → Prop) (R : Value → Heap → Prop) : Prop :=
 IfB (decide ((i12 : Int) < (turns1n : Int)))
 (law03_RingOrder_j0 x19 turns1a turns1n turns1c x23r0 x27r0 posted9 done10 reaped11 i12 next8 (decide ((i12 : Int) < 120)) H5 R)
 (law03_RingOrder_j0 x19 turns1a turns1n turns1c x23r0 x27r0 posted9 done10 reaped11 i12 next8 false H5 R)
def law03_RingOrder_p (n0 : Int) (turns1a : Option Addr) (turns1n : Nat) (turns1c : Nat) (H : Heap) (R : Value → Heap → Prop) : Prop :=
 FnW Try.prog f_law03_works ⟨[]⟩ H fun x16v H1 =>
 ∃ x16 : Bool, x16v = (Value.bool x16) ∧
 IfB (!x16)
 (R (Value.bool false) H1)
 (FnW Try.prog f_base_Among ⟨[(Value.int .i64 n0), (Value.int .i64 12)]⟩ H1 fun x19v H2 =>
 ∃ x19 : Int, x19v = (Value.int .i64 x19) ∧
 FnW Try.prog f_ring_Make ⟨[(Value.int .i64 (IntKind.wrap .i64 (1 + x19)))]⟩ H2 fun x23v H3 =>
 ∃ x23r0 : Option Addr, ∃ x23r1 : Int, x23v = (Value.tuple ⟨[(Value.pointer x23r0), (Value.int .i64 x23r1)]⟩) ∧
 FnW Try.prog f_pool_Make ⟨[(Value.int .i64 1)]⟩ H3 fun x27v H4 =>
 ∃ x27r0 : Option Addr, ∃ x27r1 : Int, x27v = (Value.tuple ⟨[(Value.pointer x27r0), (Value.int .i64 x27r1)]⟩) ∧
 LoopI (Int × Int × Int × Int × Unit) (0, (0, (0, (0, ())))) H4 fun x H next => ∀ _g : Env, law03_RingOrder_l8 x19 turns1a turns1n turns1c x23r0 x27r0 x.1 x.2.1 x.2.2.1 x.2.2.2.1 H next R)
theorem law03_RingOrder_eq (n0 : Int) (turns1a : Option Addr) (turns1n : Nat) (turns1c : Nat) (H : Heap) (R : Value → Heap → Prop) : law03_RingOrder_p n0 turns1a turns1n turns1c H R = CodeW Try.prog plan_law03_RingOrder (bodyOf Try.f7) (env0 [(Value.int .i64 n0), (Value.slice turns1a turns1n turns1c)]) H (RetW Try.prog Try.f7.results.toList R) := by kernel_rfl
theorem law03_RingOrder_sh (n0 : Int) (turns1a : Option Addr) (turns1n : Nat) (turns1c : Nat) {H : Heap} {R : Value → Heap → Prop} (h : law03_RingOrder_p n0 turns1a turns1n turns1c H R) : FnW Try.prog f_law03_RingOrder ⟨[(Value.int .i64 n0), (Value.slice turns1a turns1n turns1c)]⟩ H R := FnW.of_code k_law03_RingOrder rfl (Eq.mp (law03_RingOrder_eq n0 turns1a turns1n turns1c H R) h)
def plan_law03_RingVoid : Plan := ⟨[], []⟩
theorem k_law03_RingVoid : Known Try.prog f_law03_RingVoid Try.f8 plan_law03_RingVoid (bodyOf Try.f8) := ⟨Try.func8, by kernel_rfl, by kernel_rfl, by kernel_rfl, by kernel_rfl, by kernel_rfl⟩
def law03_RingVoid_p (h0c0 : Int) (h0c1 : Int) (b1a : Option Addr) (b1n : Nat) (b1c : Nat) (H : Heap) (R : Value → Heap → Prop) : Prop :=
 NewW H (Obj.cells ⟨[(Value.int .i64 h0c0), (Value.int .i64 h0c1)]⟩ T_pool_Handle) fun h2b H1 =>
 FnW Try.prog f_law03_works ⟨[]⟩ H1 fun x17v H2 =>
 ∃ x17 : Bool, x17v = (Value.bool x17) ∧
 IfB (!x17)
 (R (Value.bool false) H2)
 (NewW H2 (Obj.cells ⟨zl_T_ring_Ring⟩ T_ring_Ring) fun z6b H3 =>
 FnW Try.prog f_pool_Make ⟨[(Value.int .i64 1)]⟩ H3 fun x20v H4 =>
 ∃ x20r0 : Option Addr, ∃ x20r1 : Int, x20v = (Value.tuple ⟨[(Value.pointer x20r0), (Value.int .i64 x20r1)]⟩) ∧
 FnW Try.prog f_ring_Ring_Take ⟨[(Value.pointer none), (Value.pointer x20r0)]⟩ H4 fun x26v H5 =>
 ∃ (x26r0a : Option Addr) (x26r0n x26r0c : Nat), ∃ x26r1 : Int, x26v = (Value.tuple ⟨[(Value.slice x26r0a x26r0n x26r0c), (Value.int .i64 x26r1)]⟩) ∧
 FnW Try.prog f_ring_Ring_Take ⟨[(Value.pointer (some ⟨z6b, 0, none⟩)), (Value.pointer x20r0)]⟩ H5 fun x31v H6 =>
 ∃ (x31r0a : Option Addr) (x31r0n x31r0c : Nat), ∃ x31r1 : Int, x31v = (Value.tuple ⟨[(Value.slice x31r0a x31r0n x31r0c), (Value.int .i64 x31r1)]⟩) ∧
 FnW Try.prog f_ring_Ring_Reap ⟨[(Value.pointer none)]⟩ H6 fun x36v H7 =>
 ∃ x36r0c0 : Int, ∃ x36r0c1 : Int, ∃ x36r1 : Int, x36v = (Value.tuple ⟨[(Value.agg ⟨[(Value.int .i64 x36r0c0), (Value.int .i64 x36r0c1)]⟩), (Value.int .i64 x36r1)]⟩) ∧
 NewW H7 (Obj.cells ⟨[(Value.int .i64 0), (Value.int .i64 0)]⟩ T_pool_Handle) fun x13b H8 =>
 StCell H8 ⟨x13b, 0, none⟩ (Value.int .i64 x36r0c0) fun H9 =>
 StCell H9 ⟨x13b, 1, none⟩ (Value.int .i64 x36r0c1) fun H10 =>
 FnW Try.prog f_ring_Ring_Reap ⟨[(Value.pointer (some ⟨z6b, 0, none⟩))]⟩ H10 fun x40v H11 =>
 ∃ x40r0c0 : Int, ∃ x40r0c1 : Int, ∃ x40r1 : Int, x40v = (Value.tuple ⟨[(Value.agg ⟨[(Value.int .i64 x40r0c0), (Value.int .i64 x40r0c1)]⟩), (Value.int .i64 x40r1)]⟩) ∧
 NewW H11 (Obj.cells ⟨[(Value.int .i64 0), (Value.int .i64 0)]⟩ T_pool_Handle) fun x15b H12 =>
 StCell H12 ⟨x15b, 0, none⟩ (Value.int .i64 x40r0c0) fun H13 =>
 StCell H13 ⟨x15b, 1, none⟩ (Value.int .i64 x40r0c1) fun H14 =>
 ∃ x44c0 : Int, H14.cell ⟨h2b, 0, none⟩ = some (Value.int .i64 x44c0) ∧ ∃ x44c1 : Int, H14.cell ⟨h2b, 1, none⟩ = some (Value.int .i64 x44c1) ∧ FnW Try.prog f_ring_Ring_Post ⟨[(Value.pointer none), (Value.agg ⟨[(Value.int .i64 x44c0), (Value.int .i64 x44c1)]⟩)]⟩ H14 fun x45v H15 =>
 ∃ x45 : Int, x45v = (Value.int .i64 x45) ∧
 IfB ((x45 : Int) == 1)
 (∃ x48c0 : Int, H15.cell ⟨h2b, 0, none⟩ = some (Value.int .i64 x48c0) ∧ ∃ x48c1 : Int, H15.cell ⟨h2b, 1, none⟩ = some (Value.int .i64 x48c1) ∧ FnW Try.prog f_ring_Ring_Post ⟨[(Value.pointer (some ⟨z6b, 0, none⟩)), (Value.agg ⟨[(Value.int .i64 x48c0), (Value.int .i64 x48c1)]⟩)]⟩ H15 fun x49v H16 =>
 ∃ x49 : Int, x49v = (Value.int .i64 x49) ∧
 IfB ((x49 : Int) == 1)
 (FnW Try.prog f_ring_Ring_Fill ⟨[(Value.pointer none), (Value.pointer x20r0), (Value.slice b1a b1n b1c)]⟩ H16 fun x56v H17 =>
 ∃ x56 : Int, x56v = (Value.int .i64 x56) ∧
 IfB ((x56 : Int) == 1)
 (FnW Try.prog f_ring_Ring_Fill ⟨[(Value.pointer (some ⟨z6b, 0, none⟩)), (Value.pointer x20r0), (Value.slice b1a b1n b1c)]⟩ H17 fun x62v H18 =>
 ∃ x62 : Int, x62v = (Value.int .i64 x62) ∧
 IfB ((x62 : Int) == 1)
 (IfB ((x26r1 : Int) == 1)
 (IfB ((x31r1 : Int) == x26r1)
 (IfB ((x36r1 : Int) == x26r1)
 (IfB ((x40r1 : Int) == x26r1)
 (FnW Try.prog f_ring_Ring_Slots ⟨[(Value.pointer none)]⟩ H18 fun x86v H19 =>
 ∃ (x86a : Option Addr) (x86n x86c : Nat), x86v = (Value.slice x86a x86n x86c) ∧
 FnW Try.prog f_ring_Ring_Slots ⟨[(Value.pointer (some ⟨z6b, 0, none⟩))]⟩ H19 fun x88v H20 =>
 ∃ (x88a : Option Addr) (x88n x88c : Nat), x88v = (Value.slice x88a x88n x88c) ∧
 FnW Try.prog f_ring_Ring_Count ⟨[(Value.pointer none), (Value.int .i64 0)]⟩ H20 fun x92v H21 =>
 ∃ x92 : Int, x92v = (Value.int .i64 x92) ∧
 FnW Try.prog f_ring_Ring_Count ⟨[(Value.pointer (some ⟨z6b, 0, none⟩)), (Value.int .i64 0)]⟩ H21 fun x94v H22 =>
 ∃ x94 : Int, x94v = (Value.int .i64 x94) ∧
 R (Value.bool (((IntKind.wrap .i64 ((IntKind.wrap .i64 ((IntKind.wrap .i64 ((x86n : Int) + (x88n : Int))) + x92)) + x94)) : Int) == 0)) H22)
 (R (Value.bool false) H18))
 (R (Value.bool false) H18))
 (R (Value.bool false) H18))
 (R (Value.bool false) H18))
 (R (Value.bool false) H18))
 (R (Value.bool false) H17))
 (R (Value.bool false) H16))
 (R (Value.bool false) H15))
theorem law03_RingVoid_eq (h0c0 : Int) (h0c1 : Int) (b1a : Option Addr) (b1n : Nat) (b1c : Nat) (H : Heap) (R : Value → Heap → Prop) : law03_RingVoid_p h0c0 h0c1 b1a b1n b1c H R = CodeW Try.prog plan_law03_RingVoid (bodyOf Try.f8) (env0 [(Value.agg ⟨[(Value.int .i64 h0c0), (Value.int .i64 h0c1)]⟩), (Value.slice b1a b1n b1c)]) H (RetW Try.prog Try.f8.results.toList R) := by kernel_rfl
theorem law03_RingVoid_sh (h0c0 : Int) (h0c1 : Int) (b1a : Option Addr) (b1n : Nat) (b1c : Nat) {H : Heap} {R : Value → Heap → Prop} (h : law03_RingVoid_p h0c0 h0c1 b1a b1n b1c H R) : FnW Try.prog f_law03_RingVoid ⟨[(Value.agg ⟨[(Value.int .i64 h0c0), (Value.int .i64 h0c1)]⟩), (Value.slice b1a b1n b1c)]⟩ H R := FnW.of_code k_law03_RingVoid rfl (Eq.mp (law03_RingVoid_eq h0c0 h0c1 b1a b1n b1c H R) h)
def plan_law03_RingPlays : Plan := ⟨[(21, [0, 1, 2, 3, 4, 5, 6, 7, 8, 9, 10, 11, 12, 13, 14, 15, 16, 17, 18, 19, 21, 22, 20, 23, 24, 25, 26], [132]), (28, [0, 1, 2, 3, 5, 6, 4, 7, 8, 9, 10], [163]), (30, [0, 1, 2, 4, 5, 6, 7, 8, 9, 10, 11, 3, 12, 13, 14], [176, 179]), (38, [0, 1, 2, 3, 5, 4, 6, 7, 8, 9, 10, 11, 13, 14, 15, 16, 17, 12, 18, 19, 20, 21, 23, 24, 25, 26, 27, 22, 28, 29, 30, 31, 33, 34, 35, 36, 37, 38, 39, 40, 41, 42, 43, 44, 45, 46, 47, 48, 32, 49, 50], [234, 244, 254, 258, 264])], [(11, [15], [.int .i64], [2, 7, 9, 11, 13])]⟩
theorem k_law03_RingPlays : Known Try.prog f_law03_RingPlays Try.f9 plan_law03_RingPlays (bodyOf Try.f9) := ⟨Try.func9, by kernel_rfl, by kernel_rfl, by kernel_rfl, by kernel_rfl, by kernel_rfl⟩
def law03_RingPlays_j5 (acts2a : Option Addr) (acts2n : Nat) (acts2c : Nat) (x36r0 : Option Addr) (x41r0 : Option Addr) (x46r0 : Option Addr) (x51r0 : Option Addr) (i15 : Int) (next11 : (Int × Unit) → Heap → Prop) (x268 : Bool) (H31 : Heap) (R : Value → Heap → Prop) : Prop :=
 IfB x268
 (R (Value.bool false) H31)
 (next11 ((IntKind.wrap .i64 (i15 + 1)), ()) H31)
def law03_RingPlays_j4 (acts2a : Option Addr) (acts2n : Nat) (acts2c : Nat) (x36r0 : Option Addr) (x41r0 : Option Addr) (x46r0 : Option Addr) (x51r0 : Option Addr) (i15 : Int) (next11 : (Int × Unit) → Heap → Prop) (ok18 : Bool) (H30 : Heap) (R : Value → Heap → Prop) : Prop :=
 ∃ bs : List Nat, (∀ b ∈ bs, ∃ o, H30 b = some o) ∧
 IfB (!ok18)
 (law03_RingPlays_j5 acts2a acts2n acts2c x36r0 x41r0 x46r0 x51r0 i15 next11 true H30 R)
 (FnW Try.prog f_ring_Ring_Slots ⟨[(Value.pointer x36r0)]⟩ H30 fun x222v H32 =>
 ∃ (x222a : Option Addr) (x222n x222c : Nat), x222v = (Value.slice x222a x222n x222c) ∧
 KeptIn bs H30 H32 ∧ FnW Try.prog f_ref03_Ring_Slots ⟨[(Value.pointer x41r0)]⟩ H32 fun x224v H33 =>
 ∃ (x224a : Option Addr) (x224n x224c : Nat), x224v = (Value.slice x224a x224n x224c) ∧
 KeptIn bs H30 H33 ∧ FnW Try.prog f_base_SameInts ⟨[(Value.slice x222a x222n x222c), (Value.slice x224a x224n x224c)]⟩ H33 fun x225v H34 =>
 ∃ x225 : Bool, x225v = (Value.bool x225) ∧
 KeptIn bs H30 H34 ∧ IfB (!x225)
 (law03_RingPlays_j5 acts2a acts2n acts2c x36r0 x41r0 x46r0 x51r0 i15 next11 true H34 R)
 (NilP x41r0 fun x232p =>
 x232p.block ∈ bs ∧ ∃ (x234a : Option Addr) (x234n x234c : Nat), H30.cell ⟨x232p.block, x232p.off + 1, none⟩ = some (Value.slice x234a x234n x234c) ∧
 FnW Try.prog f_ring_Ring_Count ⟨[(Value.pointer x36r0), (Value.int .i64 1)]⟩ H34 fun x230v H35 =>
 ∃ x230 : Int, x230v = (Value.int .i64 x230) ∧
 KeptIn bs H30 H35 ∧ IfB ((x230 : Int) != (x234n : Int))
 (law03_RingPlays_j5 acts2a acts2n acts2c x36r0 x41r0 x46r0 x51r0 i15 next11 true H35 R)
 (NilP x41r0 fun x242p =>
 x242p.block ∈ bs ∧ ∃ (x244a : Option Addr) (x244n x244c : Nat), H30.cell ⟨x242p.block, x242p.off + 2, none⟩ = some (Value.slice x244a x244n x244c) ∧
 FnW Try.prog f_ring_Ring_Count ⟨[(Value.pointer x36r0), (Value.int .i64 2)]⟩ H35 fun x240v H36 =>
 ∃ x240 : Int, x240v = (Value.int .i64 x240) ∧
 KeptIn bs H30 H36 ∧ IfB ((x240 : Int) != (x244n : Int))
 (law03_RingPlays_j5 acts2a acts2n acts2c x36r0 x41r0 x46r0 x51r0 i15 next11 true H36 R)
 (NilP x41r0 fun x252p =>
 x252p.block ∈ bs ∧ ∃ x254 : Int, H30.cell x252p = some (Value.int .i64 x254) ∧
 NilP x41r0 fun x256p =>
 x256p.block ∈ bs ∧ ∃ (x258a : Option Addr) (x258n x258c : Nat), H30.cell ⟨x256p.block, x256p.off + 1, none⟩ = some (Value.slice x258a x258n x258c) ∧
 NilP x41r0 fun x262p =>
 x262p.block ∈ bs ∧ ∃ (x264a : Option Addr) (x264n x264c : Nat), H30.cell ⟨x262p.block, x262p.off + 2, none⟩ = some (Value.slice x264a x264n x264c) ∧
 FnW Try.prog f_ring_Ring_Count ⟨[(Value.pointer x36r0), (Value.int .i64 0)]⟩ H36 fun x250v H37 =>
 ∃ x250 : Int, x250v = (Value.int .i64 x250) ∧
 KeptIn bs H30 H37 ∧ law03_RingPlays_j5 acts2a acts2n acts2c x36r0 x41r0 x46r0 x51r0 i15 next11 ((x250 : Int) != (IntKind.wrap .i64 ((IntKind.wrap .i64 (x254 - (x258n : Int))) - (x264n : Int)))) H37 R))))
def law03_RingPlays_j6 (acts2a : Option Addr) (acts2n : Nat) (acts2c : Nat) (x36r0 : Option Addr) (x41r0 : Option Addr) (x46r0 : Option Addr) (x51r0 : Option Addr) (i15 : Int) (b17a : Option Addr) (b17n : Nat) (b17c : Nat) (x99 : Int) (next11 : (Int × Unit) → Heap → Prop) (x183 : Bool) (H40 : Heap) (R : Value → Heap → Prop) : Prop :=
 IfB x183
 (FnW Try.prog f_base_Bytes ⟨[(Value.slice b17a b17n b17c)]⟩ H40 fun x189v H41 =>
 ∃ (x189a : Option Addr) (x189n x189c : Nat), x189v = (Value.slice x189a x189n x189c) ∧
 FnW Try.prog f_ring_Ring_Fill ⟨[(Value.pointer x36r0), (Value.pointer x46r0), (Value.slice x189a x189n x189c)]⟩ H41 fun x190v H42 =>
 ∃ x190 : Int, x190v = (Value.int .i64 x190) ∧
 FnW Try.prog f_ref03_Ring_Fill ⟨[(Value.pointer x41r0), (Value.pointer x51r0), (Value.slice b17a b17n b17c)]⟩ H42 fun x194v H43 =>
 ∃ x194 : Int, x194v = (Value.int .i64 x194) ∧
 law03_RingPlays_j4 acts2a acts2n acts2c x36r0 x41r0 x46r0 x51r0 i15 next11 ((x190 : Int) == x194) H43 R)
 (IfB ((x99 : Int) == 5)
 (FnW Try.prog f_ring_Ring_Take ⟨[(Value.pointer x36r0), (Value.pointer x46r0)]⟩ H40 fun x201v H44 =>
 ∃ (x201r0a : Option Addr) (x201r0n x201r0c : Nat), ∃ x201r1 : Int, x201v = (Value.tuple ⟨[(Value.slice x201r0a x201r0n x201r0c), (Value.int .i64 x201r1)]⟩) ∧
 FnW Try.prog f_ref03_Ring_Take ⟨[(Value.pointer x41r0), (Value.pointer x51r0)]⟩ H44 fun x207v H45 =>
 ∃ (x207r0a : Option Addr) (x207r0n x207r0c : Nat), ∃ x207r1 : Int, x207v = (Value.tuple ⟨[(Value.slice x207r0a x207r0n x207r0c), (Value.int .i64 x207r1)]⟩) ∧
 FnW Try.prog f_base_SameBytes ⟨[(Value.slice x201r0a x201r0n x201r0c), (Value.slice x207r0a x207r0n x207r0c)]⟩ H45 fun x212v H46 =>
 ∃ x212 : Bool, x212v = (Value.bool x212) ∧
 IfB x212
 (law03_RingPlays_j4 acts2a acts2n acts2c x36r0 x41r0 x46r0 x51r0 i15 next11 ((x201r1 : Int) == x207r1) H46 R)
 (law03_RingPlays_j4 acts2a acts2n acts2c x36r0 x41r0 x46r0 x51r0 i15 next11 false H46 R))
 (FnW Try.prog f_ring_Ring_Reap ⟨[(Value.pointer x36r0)]⟩ H40 fun x102v H47 =>
 ∃ x102r0c0 : Int, ∃ x102r0c1 : Int, ∃ x102r1 : Int, x102v = (Value.tuple ⟨[(Value.agg ⟨[(Value.int .i64 x102r0c0), (Value.int .i64 x102r0c1)]⟩), (Value.int .i64 x102r1)]⟩) ∧
 NewW H47 (Obj.cells ⟨[(Value.int .i64 0), (Value.int .i64 0)]⟩ T_pool_Handle) fun h27b H48 =>
 StCell H48 ⟨h27b, 0, none⟩ (Value.int .i64 x102r0c0) fun H49 =>
 StCell H49 ⟨h27b, 1, none⟩ (Value.int .i64 x102r0c1) fun H50 =>
 FnW Try.prog f_ref03_Ring_Reap ⟨[(Value.pointer x41r0)]⟩ H50 fun x107v H51 =>
 ∃ x107r0c0 : Int, ∃ x107r0c1 : Int, ∃ x107r1 : Int, x107v = (Value.tuple ⟨[(Value.agg ⟨[(Value.int .i64 x107r0c0), (Value.int .i64 x107r0c1)]⟩), (Value.int .i64 x107r1)]⟩) ∧
 NewW H51 (Obj.cells ⟨[(Value.int .i64 0), (Value.int .i64 0)]⟩ T_ref02_Handle) fun k29b H52 =>
 StCell H52 ⟨k29b, 0, none⟩ (Value.int .i64 x107r0c0) fun H53 =>
 StCell H53 ⟨k29b, 1, none⟩ (Value.int .i64 x107r0c1) fun H54 =>
 ∃ bs : List Nat, (∀ b ∈ bs, ∃ o, H54 b = some o) ∧
 ∃ x111 : Int, H54.cell ⟨h27b, 0, none⟩ = some (Value.int .i64 x111) ∧
 ∃ x113 : Int, H54.cell ⟨k29b, 0, none⟩ = some (Value.int .i64 x113) ∧
 IfB ((x111 : Int) == x113)
 (∃ x117 : Int, H54.cell ⟨h27b, 1, none⟩ = some (Value.int .i64 x117) ∧
 ∃ x119 : Int, H54.cell ⟨k29b, 1, none⟩ = some (Value.int .i64 x119) ∧
 IfB ((x117 : Int) == x119)
 (IfB ((x102r1 : Int) == x107r1)
 (∃ x129c0 : Int, H54.cell ⟨h27b, 0, none⟩ = some (Value.int .i64 x129c0) ∧ ∃ x129c1 : Int, H54.cell ⟨h27b, 1, none⟩ = some (Value.int .i64 x129c1) ∧ k29b ∈ bs ∧ ∃ x132c0 : Int, H54.cell ⟨k29b, 0, none⟩ = some (Value.int .i64 x132c0) ∧ ∃ x132c1 : Int, H54.cell ⟨k29b, 1, none⟩ = some (Value.int .i64 x132c1) ∧ FnW Try.prog f_pool_Pool_Give ⟨[(Value.pointer x46r0), (Value.agg ⟨[(Value.int .i64 x129c0), (Value.int .i64 x129c1)]⟩)]⟩ H54 fun x130v H55 =>
 ∃ x130 : Int, x130v = (Value.int .i64 x130) ∧
 KeptIn bs H54 H55 ∧ FnW Try.prog f_ref02_Pool_Give ⟨[(Value.pointer x51r0), (Value.agg ⟨[(Value.int .i64 x132c0), (Value.int .i64 x132c1)]⟩)]⟩ H55 fun x133v H56 =>
 ∃ x133 : Int, x133v = (Value.int .i64 x133) ∧
 KeptIn bs H54 H56 ∧ law03_RingPlays_j4 acts2a acts2n acts2c x36r0 x41r0 x46r0 x51r0 i15 next11 ((x130 : Int) == x133) H56 R)
 (law03_RingPlays_j4 acts2a acts2n acts2c x36r0 x41r0 x46r0 x51r0 i15 next11 false H54 R))
 (law03_RingPlays_j4 acts2a acts2n acts2c x36r0 x41r0 x46r0 x51r0 i15 next11 false H54 R))
 (law03_RingPlays_j4 acts2a acts2n acts2c x36r0 x41r0 x46r0 x51r0 i15 next11 false H54 R)))
def law03_RingPlays_j3 (acts2a : Option Addr) (acts2n : Nat) (acts2c : Nat) (x36r0 : Option Addr) (x41r0 : Option Addr) (x46r0 : Option Addr) (x51r0 : Option Addr) (i15 : Int) (a16b : Nat) (b17a : Option Addr) (b17n : Nat) (b17c : Nat) (x99 : Int) (next11 : (Int × Unit) → Heap → Prop) (x136 : Bool) (H18 : Heap) (R : Value → Heap → Prop) : Prop :=
 IfB x136
 (FnW Try.prog f_base_Bytes ⟨[(Value.slice b17a b17n b17c)]⟩ H18 fun x142v H19 =>
 ∃ (x142a : Option Addr) (x142n x142c : Nat), x142v = (Value.slice x142a x142n x142c) ∧
 FnW Try.prog f_pool_Pool_Lend ⟨[(Value.pointer x46r0), (Value.slice x142a x142n x142c)]⟩ H19 fun x143v H20 =>
 ∃ x143r0c0 : Int, ∃ x143r0c1 : Int, ∃ x143r1 : Int, x143v = (Value.tuple ⟨[(Value.agg ⟨[(Value.int .i64 x143r0c0), (Value.int .i64 x143r0c1)]⟩), (Value.int .i64 x143r1)]⟩) ∧
 NewW H20 (Obj.cells ⟨[(Value.int .i64 0), (Value.int .i64 0)]⟩ T_pool_Handle) fun h19b H21 =>
 StCell H21 ⟨h19b, 0, none⟩ (Value.int .i64 x143r0c0) fun H22 =>
 StCell H22 ⟨h19b, 1, none⟩ (Value.int .i64 x143r0c1) fun H23 =>
 FnW Try.prog f_ref02_Pool_Lend ⟨[(Value.pointer x51r0), (Value.slice b17a b17n b17c)]⟩ H23 fun x149v H24 =>
 ∃ x149r0c0 : Int, ∃ x149r0c1 : Int, ∃ x149r1 : Int, x149v = (Value.tuple ⟨[(Value.agg ⟨[(Value.int .i64 x149r0c0), (Value.int .i64 x149r0c1)]⟩), (Value.int .i64 x149r1)]⟩) ∧
 NewW H24 (Obj.cells ⟨[(Value.int .i64 0), (Value.int .i64 0)]⟩ T_ref02_Handle) fun k21b H25 =>
 StCell H25 ⟨k21b, 0, none⟩ (Value.int .i64 x149r0c0) fun H26 =>
 StCell H26 ⟨k21b, 1, none⟩ (Value.int .i64 x149r0c1) fun H27 =>
 IfB ((x149r1 : Int) == 0)
 (∃ bs : List Nat, (∀ b ∈ bs, ∃ o, H27 b = some o) ∧
 IfB ((x143r1 : Int) == x149r1)
 (∃ x160c0 : Int, H27.cell ⟨h19b, 0, none⟩ = some (Value.int .i64 x160c0) ∧ ∃ x160c1 : Int, H27.cell ⟨h19b, 1, none⟩ = some (Value.int .i64 x160c1) ∧ k21b ∈ bs ∧ ∃ x163c0 : Int, H27.cell ⟨k21b, 0, none⟩ = some (Value.int .i64 x163c0) ∧ ∃ x163c1 : Int, H27.cell ⟨k21b, 1, none⟩ = some (Value.int .i64 x163c1) ∧ FnW Try.prog f_ring_Ring_Post ⟨[(Value.pointer x36r0), (Value.agg ⟨[(Value.int .i64 x160c0), (Value.int .i64 x160c1)]⟩)]⟩ H27 fun x161v H28 =>
 ∃ x161 : Int, x161v = (Value.int .i64 x161) ∧
 KeptIn bs H27 H28 ∧ FnW Try.prog f_ref03_Ring_Post ⟨[(Value.pointer x41r0), (Value.agg ⟨[(Value.int .i64 x163c0), (Value.int .i64 x163c1)]⟩)]⟩ H28 fun x164v H29 =>
 ∃ x164 : Int, x164v = (Value.int .i64 x164) ∧
 KeptIn bs H27 H29 ∧ law03_RingPlays_j4 acts2a acts2n acts2c x36r0 x41r0 x46r0 x51r0 i15 next11 ((x161 : Int) == x164) H29 R)
 (law03_RingPlays_j4 acts2a acts2n acts2c x36r0 x41r0 x46r0 x51r0 i15 next11 false H27 R))
 (law03_RingPlays_j4 acts2a acts2n acts2c x36r0 x41r0 x46r0 x51r0 i15 next11 ((x143r1 : Int) == x149r1) H27 R))
 (IfB ((x99 : Int) == 2)
 (∃ bs : List Nat, (∀ b ∈ bs, ∃ o, H18 b = some o) ∧
 ∃ x171c0 : Int, H18.cell ⟨a16b, 1, none⟩ = some (Value.int .i64 x171c0) ∧ ∃ x171c1 : Int, H18.cell ⟨a16b, 2, none⟩ = some (Value.int .i64 x171c1) ∧ a16b ∈ bs ∧ ∃ x176 : Int, H18.cell ⟨a16b, 1, none⟩ = some (Value.int .i64 x176) ∧
 a16b ∈ bs ∧ ∃ x179 : Int, H18.cell ⟨a16b, 2, none⟩ = some (Value.int .i64 x179) ∧
 FnW Try.prog f_ring_Ring_Post ⟨[(Value.pointer x36r0), (Value.agg ⟨[(Value.int .i64 x171c0), (Value.int .i64 x171c1)]⟩)]⟩ H18 fun x172v H38 =>
 ∃ x172 : Int, x172v = (Value.int .i64 x172) ∧
 KeptIn bs H18 H38 ∧ FnW Try.prog f_ref03_Ring_Post ⟨[(Value.pointer x41r0), (Value.agg ⟨[(Value.int .i64 x176), (Value.int .i64 x179)]⟩)]⟩ H38 fun x181v H39 =>
 ∃ x181 : Int, x181v = (Value.int .i64 x181) ∧
 KeptIn bs H18 H39 ∧ law03_RingPlays_j4 acts2a acts2n acts2c x36r0 x41r0 x46r0 x51r0 i15 next11 ((x172 : Int) == x181) H39 R)
 (IfB ((x99 : Int) == 3)
 (law03_RingPlays_j6 acts2a acts2n acts2c x36r0 x41r0 x46r0 x51r0 i15 b17a b17n b17c x99 next11 ((x99 : Int) == 3) H18 R)
 (law03_RingPlays_j6 acts2a acts2n acts2c x36r0 x41r0 x46r0 x51r0 i15 b17a b17n b17c x99 next11 ((x99 : Int) == 4) H18 R)))
def law03_RingPlays_j2 (acts2a : Option Addr) (acts2n : Nat) (acts2c : Nat) (x36r0 : Option Addr) (x41r0 : Option Addr) (x46r0 : Option Addr) (x51r0 : Option Addr) (i15 : Int) (a16b : Nat) (next11 : (Int × Unit) → Heap → Prop) (b17a : Option Addr) (b17n : Nat) (b17c : Nat) (H16 : Heap) (R : Value → Heap → Prop) : Prop :=
 ∃ x98 : Int, H16.cell ⟨a16b, 0, none⟩ = some (Value.int .i64 x98) ∧
 FnW Try.prog f_base_Among ⟨[(Value.int .i64 x98), (Value.int .i64 8)]⟩ H16 fun x99v H17 =>
 ∃ x99 : Int, x99v = (Value.int .i64 x99) ∧
 IfB ((x99 : Int) == 0)
 (law03_RingPlays_j3 acts2a acts2n acts2c x36r0 x41r0 x46r0 x51r0 i15 a16b b17a b17n b17c x99 next11 ((x99 : Int) == 0) H17 R)
 (law03_RingPlays_j3 acts2a acts2n acts2c x36r0 x41r0 x46r0 x51r0 i15 a16b b17a b17n b17c x99 next11 ((x99 : Int) == 1) H17 R)
def law03_RingPlays_j1 (acts2a : Option Addr) (acts2n : Nat) (acts2c : Nat) (x36r0 : Option Addr) (x41r0 : Option Addr) (x46r0 : Option Addr) (x51r0 : Option Addr) (i15 : Int) (next11 : (Int × Unit) → Heap → Prop) (x78 : Bool) (H9 : Heap) (R : Value → Heap → Prop) : Prop :=
 IfB x78
 (NilP acts2a fun x83q =>
 InB i15 acts2n fun x83i =>
 elemAt x83q x83i 4 fun x83p =>
 ∃ x84c0 : Int, H9.cell x83p = some (Value.int .i64 x84c0) ∧ ∃ x84c1 : Int, H9.cell ⟨x83p.block, x83p.off + 1, none⟩ = some (Value.int .i64 x84c1) ∧ ∃ x84c2 : Int, H9.cell ⟨x83p.block, x83p.off + 2, none⟩ = some (Value.int .i64 x84c2) ∧ ∃ (x84c3a : Option Addr) (x84c3n x84c3c : Nat), H9.cell ⟨x83p.block, x83p.off + 3, none⟩ = some (Value.slice x84c3a x84c3n x84c3c) ∧ NewW H9 (Obj.cells ⟨[(Value.int .i64 0), (Value.int .i64 0), (Value.int .i64 0), (Value.slice none 0 0)]⟩ T_law03_Act) fun a16b H10 =>
 StCell H10 ⟨a16b, 0, none⟩ (Value.int .i64 x84c0) fun H11 =>
 StCell H11 ⟨a16b, 1, none⟩ (Value.int .i64 x84c1) fun H12 =>
 StCell H12 ⟨a16b, 2, none⟩ (Value.int .i64 x84c2) fun H13 =>
 StCell H13 ⟨a16b, 3, none⟩ (Value.slice x84c3a x84c3n x84c3c) fun H14 =>
 ∃ (x86a : Option Addr) (x86n x86c : Nat), H14.cell ⟨a16b, 3, none⟩ = some (Value.slice x86a x86n x86c) ∧
 ∃ (x88a : Option Addr) (x88n x88c : Nat), H14.cell ⟨a16b, 3, none⟩ = some (Value.slice x88a x88n x88c) ∧
 InC (min (x88n : Int) 60) x86c fun x91h =>
 ∃ (x93a : Option Addr) (x93n x93c : Nat), H14.cell ⟨a16b, 3, none⟩ = some (Value.slice x93a x93n x93c) ∧
 IfB (decide (((x93n : Int) : Int) > 1514))
 (MakeW Try.prog T_sl_uint8 (Value.int .i64 1515) (Value.int .i64 1515) H14 fun x96v H15 =>
 ∃ (x96a : Option Addr) (x96n x96c : Nat), x96v = (Value.slice x96a x96n x96c) ∧
 law03_RingPlays_j2 acts2a acts2n acts2c x36r0 x41r0 x46r0 x51r0 i15 a16b next11 x96a x96n x96c H15 R)
 (law03_RingPlays_j2 acts2a acts2n acts2c x36r0 x41r0 x46r0 x51r0 i15 a16b next11 x86a x91h x86c H14 R))
 (FnW Try.prog f_law03_works ⟨[]⟩ H9 fun x269v H57 =>
 ∃ x269 : Bool, x269v = (Value.bool x269) ∧
 R (Value.bool x269) H57)
def law03_RingPlays_l11 (acts2a : Option Addr) (acts2n : Nat) (acts2c : Nat) (x36r0 : Option Addr) (x41r0 : Option Addr) (x46r0 : Option Addr) (x51r0 : Option Addr) (i15 : Int) (H8 : Heap) (next11 : (Int × Unit) → Heap → Prop) (R : Value → Heap → Prop) : Prop :=
 IfB (decide ((i15 : Int) < (acts2n : Int)))
 (law03_RingPlays_j1 acts2a acts2n acts2c x36r0 x41r0 x46r0 x51r0 i15 next11 (decide ((i15 : Int) < 80)) H8 R)
 (law03_RingPlays_j1 acts2a acts2n acts2c x36r0 x41r0 x46r0 x51r0 i15 next11 false H8 R)
def law03_RingPlays_j0 (acts2a : Option Addr) (acts2n : Nat) (acts2c : Nat) (x36r0 : Option Addr) (x41r0 : Option Addr) (x46r0 : Option Addr) (x51r0 : Option Addr) (x67 : Bool) (H6 : Heap) (R : Value → Heap → Prop) : Prop :=
 IfB x67
 (R (Value.bool false) H6)
 (IfB x41r0.isNone
 (FnW Try.prog f_law03_works ⟨[]⟩ H6 fun x70v H7 =>
 ∃ x70 : Bool, x70v = (Value.bool x70) ∧
 R (Value.bool x70) H7)
 (LoopI (Int × Unit) (0, ()) H6 fun x H next => ∀ _g : Env, law03_RingPlays_l11 acts2a acts2n acts2c x36r0 x41r0 x46r0 x51r0 x.1 H next R))
def law03_RingPlays_p (n0 : Int) (size1 : Int) (acts2a : Option Addr) (acts2n : Nat) (acts2c : Nat) (H : Heap) (R : Value → Heap → Prop) : Prop :=
 FnW Try.prog f_base_Among ⟨[(Value.int .i64 size1), (Value.int .i64 10)]⟩ H fun x32v H1 =>
 ∃ x32 : Int, x32v = (Value.int .i64 x32) ∧
 FnW Try.prog f_ring_Make ⟨[(Value.int .i64 n0)]⟩ H1 fun x36v H2 =>
 ∃ x36r0 : Option Addr, ∃ x36r1 : Int, x36v = (Value.tuple ⟨[(Value.pointer x36r0), (Value.int .i64 x36r1)]⟩) ∧
 FnW Try.prog f_ref03_Make ⟨[(Value.int .i64 n0)]⟩ H2 fun x41v H3 =>
 ∃ x41r0 : Option Addr, ∃ x41r1 : Int, x41v = (Value.tuple ⟨[(Value.pointer x41r0), (Value.int .i64 x41r1)]⟩) ∧
 FnW Try.prog f_pool_Make ⟨[(Value.int .i64 (IntKind.wrap .i64 (1 + x32)))]⟩ H3 fun x46v H4 =>
 ∃ x46r0 : Option Addr, ∃ x46r1 : Int, x46v = (Value.tuple ⟨[(Value.pointer x46r0), (Value.int .i64 x46r1)]⟩) ∧
 FnW Try.prog f_ref02_Make ⟨[(Value.int .i64 (IntKind.wrap .i64 (1 + x32)))]⟩ H4 fun x51v H5 =>
 ∃ x51r0 : Option Addr, ∃ x51r1 : Int, x51v = (Value.tuple ⟨[(Value.pointer x51r0), (Value.int .i64 x51r1)]⟩) ∧
 IfB ((x36r1 : Int) != x41r1)
 (law03_RingPlays_j0 acts2a acts2n acts2c x36r0 x41r0 x46r0 x51r0 true H5 R)
 (IfB (!(x36r0.isNone == x41r0.isNone))
 (law03_RingPlays_j0 acts2a acts2n acts2c x36r0 x41r0 x46r0 x51r0 true H5 R)
 (law03_RingPlays_j0 acts2a acts2n acts2c x36r0 x41r0 x46r0 x51r0 x46r0.isNone H5 R))
theorem law03_RingPlays_eq (n0 : Int) (size1 : Int) (acts2a : Option Addr) (acts2n : Nat) (acts2c : Nat) (H : Heap) (R : Value → Heap → Prop) : law03_RingPlays_p n0 size1 acts2a acts2n acts2c H R = CodeW Try.prog plan_law03_RingPlays (bodyOf Try.f9) (env0 [(Value.int .i64 n0), (Value.int .i64 size1), (Value.slice acts2a acts2n acts2c)]) H (RetW Try.prog Try.f9.results.toList R) := by kernel_rfl
theorem law03_RingPlays_sh (n0 : Int) (size1 : Int) (acts2a : Option Addr) (acts2n : Nat) (acts2c : Nat) {H : Heap} {R : Value → Heap → Prop} (h : law03_RingPlays_p n0 size1 acts2a acts2n acts2c H R) : FnW Try.prog f_law03_RingPlays ⟨[(Value.int .i64 n0), (Value.int .i64 size1), (Value.slice acts2a acts2n acts2c)]⟩ H R := FnW.of_code k_law03_RingPlays rfl (Eq.mp (law03_RingPlays_eq n0 size1 acts2a acts2n acts2c H R) h)
def plan_law02_works : Plan := ⟨[], []⟩
theorem k_law02_works : Known Try.prog f_law02_works Try.f10 plan_law02_works (bodyOf Try.f10) := ⟨Try.func10, by kernel_rfl, by kernel_rfl, by kernel_rfl, by kernel_rfl, by kernel_rfl⟩
def law02_works_j0 (x12r0 : Option Addr) (x20 : Bool) (H2 : Heap) (R : Value → Heap → Prop) : Prop :=
 IfB x20
 (R (Value.bool false) H2)
 (NewW H2 (Obj.cells ⟨[(Value.int .u8 7)]⟩ T_uint8) fun x23b H3 =>
 FnW Try.prog f_pool_Pool_Lend ⟨[(Value.pointer x12r0), (Value.slice (some ⟨x23b, 0, none⟩) 1 1)]⟩ H3 fun x24v H4 =>
 ∃ x24r0c0 : Int, ∃ x24r0c1 : Int, ∃ x24r1 : Int, x24v = (Value.tuple ⟨[(Value.agg ⟨[(Value.int .i64 x24r0c0), (Value.int .i64 x24r0c1)]⟩), (Value.int .i64 x24r1)]⟩) ∧
 NewW H4 (Obj.cells ⟨[(Value.int .i64 0), (Value.int .i64 0)]⟩ T_pool_Handle) fun h3b H5 =>
 StCell H5 ⟨h3b, 0, none⟩ (Value.int .i64 x24r0c0) fun H6 =>
 StCell H6 ⟨h3b, 1, none⟩ (Value.int .i64 x24r0c1) fun H7 =>
 ∃ x28c0 : Int, H7.cell ⟨h3b, 0, none⟩ = some (Value.int .i64 x28c0) ∧ ∃ x28c1 : Int, H7.cell ⟨h3b, 1, none⟩ = some (Value.int .i64 x28c1) ∧ FnW Try.prog f_pool_Pool_Give ⟨[(Value.pointer x12r0), (Value.agg ⟨[(Value.int .i64 x28c0), (Value.int .i64 x28c1)]⟩)]⟩ H7 fun x29v H8 =>
 ∃ x29 : Int, x29v = (Value.int .i64 x29) ∧
 NewW H8 (Obj.cells ⟨[(Value.int .u8 8)]⟩ T_uint8) fun x32b H9 =>
 FnW Try.prog f_pool_Pool_Lend ⟨[(Value.pointer x12r0), (Value.slice (some ⟨x32b, 0, none⟩) 1 1)]⟩ H9 fun x33v H10 =>
 ∃ x33r0c0 : Int, ∃ x33r0c1 : Int, ∃ x33r1 : Int, x33v = (Value.tuple ⟨[(Value.agg ⟨[(Value.int .i64 x33r0c0), (Value.int .i64 x33r0c1)]⟩), (Value.int .i64 x33r1)]⟩) ∧
 NewW H10 (Obj.cells ⟨[(Value.int .i64 0), (Value.int .i64 0)]⟩ T_pool_Handle) fun k5b H11 =>
 StCell H11 ⟨k5b, 0, none⟩ (Value.int .i64 x33r0c0) fun H12 =>
 StCell H12 ⟨k5b, 1, none⟩ (Value.int .i64 x33r0c1) fun H13 =>
 ∃ x38c0 : Int, H13.cell ⟨h3b, 0, none⟩ = some (Value.int .i64 x38c0) ∧ ∃ x38c1 : Int, H13.cell ⟨h3b, 1, none⟩ = some (Value.int .i64 x38c1) ∧ FnW Try.prog f_pool_Pool_Read ⟨[(Value.pointer x12r0), (Value.agg ⟨[(Value.int .i64 x38c0), (Value.int .i64 x38c1)]⟩)]⟩ H13 fun x39v H14 =>
 ∃ (x39r0a : Option Addr) (x39r0n x39r0c : Nat), ∃ x39r1 : Int, x39v = (Value.tuple ⟨[(Value.slice x39r0a x39r0n x39r0c), (Value.int .i64 x39r1)]⟩) ∧
 ∃ x44c0 : Int, H14.cell ⟨k5b, 0, none⟩ = some (Value.int .i64 x44c0) ∧ ∃ x44c1 : Int, H14.cell ⟨k5b, 1, none⟩ = some (Value.int .i64 x44c1) ∧ FnW Try.prog f_pool_Pool_Read ⟨[(Value.pointer x12r0), (Value.agg ⟨[(Value.int .i64 x44c0), (Value.int .i64 x44c1)]⟩)]⟩ H14 fun x45v H15 =>
 ∃ (x45r0a : Option Addr) (x45r0n x45r0c : Nat), ∃ x45r1 : Int, x45v = (Value.tuple ⟨[(Value.slice x45r0a x45r0n x45r0c), (Value.int .i64 x45r1)]⟩) ∧
 ∃ x48c0 : Int, H15.cell ⟨h3b, 0, none⟩ = some (Value.int .i64 x48c0) ∧ ∃ x48c1 : Int, H15.cell ⟨h3b, 1, none⟩ = some (Value.int .i64 x48c1) ∧ Program.eqGuardType Try.prog (Program.depth Try.prog) T_pool_Handle = false ∧
 IfB (((x48c0 : Int) == 0) && (((x48c1 : Int) == 1) && true))
 (∃ x52c0 : Int, H15.cell ⟨k5b, 0, none⟩ = some (Value.int .i64 x52c0) ∧ ∃ x52c1 : Int, H15.cell ⟨k5b, 1, none⟩ = some (Value.int .i64 x52c1) ∧ Program.eqGuardType Try.prog (Program.depth Try.prog) T_pool_Handle = false ∧
 IfB (((x52c0 : Int) == 0) && (((x52c1 : Int) == 2) && true))
 (IfB ((x33r1 : Int) == 0)
 (IfB ((x39r1 : Int) == 5)
 (NewW H15 (Obj.cells ⟨[(Value.int .u8 8)]⟩ T_uint8) fun x66b H16 =>
 FnW Try.prog f_base_SameBytes ⟨[(Value.slice x45r0a x45r0n x45r0c), (Value.slice (some ⟨x66b, 0, none⟩) 1 1)]⟩ H16 fun x67v H17 =>
 ∃ x67 : Bool, x67v = (Value.bool x67) ∧
 IfB x67
 (R (Value.bool ((x45r1 : Int) == 0)) H17)
 (R (Value.bool false) H17))
 (R (Value.bool false) H15))
 (R (Value.bool false) H15))
 (R (Value.bool false) H15))
 (R (Value.bool false) H15))
def law02_works_p (H : Heap) (R : Value → Heap → Prop) : Prop :=
 FnW Try.prog f_pool_Make ⟨[(Value.int .i64 1)]⟩ H fun x12v H1 =>
 ∃ x12r0 : Option Addr, ∃ x12r1 : Int, x12v = (Value.tuple ⟨[(Value.pointer x12r0), (Value.int .i64 x12r1)]⟩) ∧
 IfB x12r0.isNone
 (law02_works_j0 x12r0 true H1 R)
 (law02_works_j0 x12r0 ((x12r1 : Int) != 0) H1 R)
theorem law02_works_eq  (H : Heap) (R : Value → Heap → Prop) : law02_works_p  H R = CodeW Try.prog plan_law02_works (bodyOf Try.f10) (env0 []) H (RetW Try.prog Try.f10.results.toList R) := by kernel_rfl
theorem law02_works_sh  {H : Heap} {R : Value → Heap → Prop} (h : law02_works_p  H R) : FnW Try.prog f_law02_works ⟨[]⟩ H R := FnW.of_code k_law02_works rfl (Eq.mp (law02_works_eq  H R) h)
def plan_law02_bytes : Plan := ⟨[], []⟩
theorem k_law02_bytes : Known Try.prog f_law02_bytes Try.f11 plan_law02_bytes (bodyOf Try.f11) := ⟨Try.func11, by kernel_rfl, by kernel_rfl, by kernel_rfl, by kernel_rfl, by kernel_rfl⟩
def law02_bytes_p (b0a : Option Addr) (b0n : Nat) (b0c : Nat) (H : Heap) (R : Value → Heap → Prop) : Prop :=
 IfB (decide (((b0n : Int) : Int) > 1514))
 (MakeW Try.prog T_sl_uint8 (Value.int .i64 1515) (Value.int .i64 1515) H fun x6v H1 =>
 ∃ (x6a : Option Addr) (x6n x6c : Nat), x6v = (Value.slice x6a x6n x6c) ∧
 R (Value.slice x6a x6n x6c) H1)
 (InC (min (b0n : Int) 60) b0c fun x11h =>
 FnW Try.prog f_base_Bytes ⟨[(Value.slice b0a x11h b0c)]⟩ H fun x12v H2 =>
 ∃ (x12a : Option Addr) (x12n x12c : Nat), x12v = (Value.slice x12a x12n x12c) ∧
 R (Value.slice x12a x12n x12c) H2)
theorem law02_bytes_eq (b0a : Option Addr) (b0n : Nat) (b0c : Nat) (H : Heap) (R : Value → Heap → Prop) : law02_bytes_p b0a b0n b0c H R = CodeW Try.prog plan_law02_bytes (bodyOf Try.f11) (env0 [(Value.slice b0a b0n b0c)]) H (RetW Try.prog Try.f11.results.toList R) := by kernel_rfl
theorem law02_bytes_sh (b0a : Option Addr) (b0n : Nat) (b0c : Nat) {H : Heap} {R : Value → Heap → Prop} (h : law02_bytes_p b0a b0n b0c H R) : FnW Try.prog f_law02_bytes ⟨[(Value.slice b0a b0n b0c)]⟩ H R := FnW.of_code k_law02_bytes rfl (Eq.mp (law02_bytes_eq b0a b0n b0c H R) h)
def plan_pool_Make : Plan := ⟨[], [(5, [18], [.int .i64], [4, 17])]⟩
theorem k_pool_Make : Known Try.prog f_pool_Make Try.f12 plan_pool_Make (bodyOf Try.f12) := ⟨Try.func12, by kernel_rfl, by kernel_rfl, by kernel_rfl, by kernel_rfl, by kernel_rfl⟩
def pool_Make_l5 (x16b : Nat) (n0 : Int) (x18 : Int) (H4 : Heap) (next5 : (Int × Unit) → Heap → Prop) (R : Value → Heap → Prop) : Prop :=
 IfB (decide ((x18 : Int) < n0))
 (InB x18 256 fun x26i =>
 StCell H4 ⟨x16b, 1 + x26i * 1, none⟩ (Value.int .i64 x18) fun H5 =>
 next5 ((IntKind.wrap .i64 (x18 + 1)), ()) H5)
 (R (Value.tuple ⟨[(Value.pointer (some ⟨x16b, 0, none⟩)), (Value.int .i64 0)]⟩) H4)
def pool_Make_j0 (n0 : Int) (x11 : Bool) (H1 : Heap) (R : Value → Heap → Prop) : Prop :=
 IfB x11
 (R (Value.tuple ⟨[(Value.pointer none), (Value.int .i64 2)]⟩) H1)
 (MakeW Try.prog T_sl_pool_buffer (Value.int .i64 n0) (Value.int .i64 n0) H1 fun x13v H2 =>
 ∃ (x13a : Option Addr) (x13n x13c : Nat), x13v = (Value.slice x13a x13n x13c) ∧
 NewW H2 (Obj.cells ⟨(setL (setL zl_T_pool_Pool 0 [(Value.slice x13a x13n x13c)]) 258 [(Value.int .i64 n0)])⟩ T_pool_Pool) fun x16b H3 =>
 LoopI (Int × Unit) (0, ()) H3 fun x H next => ∀ _g : Env, pool_Make_l5 x16b n0 x.1 H next R)
def pool_Make_p (n0 : Int) (H : Heap) (R : Value → Heap → Prop) : Prop :=
 IfB (decide ((n0 : Int) < 1))
 (pool_Make_j0 n0 true H R)
 (pool_Make_j0 n0 (decide ((n0 : Int) > 256)) H R)
theorem pool_Make_eq (n0 : Int) (H : Heap) (R : Value → Heap → Prop) : pool_Make_p n0 H R = CodeW Try.prog plan_pool_Make (bodyOf Try.f12) (env0 [(Value.int .i64 n0)]) H (RetW Try.prog Try.f12.results.toList R) := by kernel_rfl
theorem pool_Make_sh (n0 : Int) {H : Heap} {R : Value → Heap → Prop} (h : pool_Make_p n0 H R) : FnW Try.prog f_pool_Make ⟨[(Value.int .i64 n0)]⟩ H R := FnW.of_code k_pool_Make rfl (Eq.mp (pool_Make_eq n0 H R) h)
def plan_base_Bytes : Plan := ⟨[], []⟩
theorem k_base_Bytes : Known Try.prog f_base_Bytes Try.f13 plan_base_Bytes (bodyOf Try.f13) := ⟨Try.func13, by kernel_rfl, by kernel_rfl, by kernel_rfl, by kernel_rfl, by kernel_rfl⟩
def base_Bytes_p (b0a : Option Addr) (b0n : Nat) (b0c : Nat) (H : Heap) (R : Value → Heap → Prop) : Prop :=
 NewW H (Obj.cells ⟨[]⟩ T_uint8) fun x3b H1 =>
 AppW Try.prog #[T_sl_uint8, T_sl_uint8] T_sl_uint8 [(Value.slice (some ⟨x3b, 0, none⟩) 0 0), (Value.slice b0a b0n b0c)] H1 fun x5v H2 =>
 ∃ (x5a : Option Addr) (x5n x5c : Nat), x5v = (Value.slice x5a x5n x5c) ∧
 R (Value.slice x5a x5n x5c) H2
theorem base_Bytes_eq (b0a : Option Addr) (b0n : Nat) (b0c : Nat) (H : Heap) (R : Value → Heap → Prop) : base_Bytes_p b0a b0n b0c H R = CodeW Try.prog plan_base_Bytes (bodyOf Try.f13) (env0 [(Value.slice b0a b0n b0c)]) H (RetW Try.prog Try.f13.results.toList R) := by kernel_rfl
theorem base_Bytes_sh (b0a : Option Addr) (b0n : Nat) (b0c : Nat) {H : Heap} {R : Value → Heap → Prop} (h : base_Bytes_p b0a b0n b0c H R) : FnW Try.prog f_base_Bytes ⟨[(Value.slice b0a b0n b0c)]⟩ H R := FnW.of_code k_base_Bytes rfl (Eq.mp (base_Bytes_eq b0a b0n b0c H R) h)
def plan_pool_Pool_Lend : Plan := ⟨[], []⟩
theorem k_pool_Pool_Lend : Known Try.prog f_pool_Pool_Lend Try.f14 plan_pool_Pool_Lend (bodyOf Try.f14) := ⟨Try.func14, by kernel_rfl, by kernel_rfl, by kernel_rfl, by kernel_rfl, by kernel_rfl⟩
def pool_Pool_Lend_p (p0b : Nat) (b1a : Option Addr) (b1n : Nat) (b1c : Nat) (H : Heap) (R : Value → Heap → Prop) : Prop :=
 NewW H (Obj.cells ⟨[(Value.int .i64 0), (Value.int .i64 0)]⟩ T_pool_Handle) fun x4b H1 =>
 FnW Try.prog f_pool_Pool_is ⟨[(Value.pointer (some ⟨p0b, 0, none⟩))]⟩ H1 fun x9v H2 =>
 ∃ x9 : Bool, x9v = (Value.bool x9) ∧
 IfB (!x9)
 (StCell H2 ⟨x4b, 0, none⟩ (Value.int .i64 0) fun H3 =>
 StCell H3 ⟨x4b, 1, none⟩ (Value.int .i64 0) fun H4 =>
 ∃ r0c0 : Int, H4.cell ⟨x4b, 0, none⟩ = some (Value.int .i64 r0c0) ∧ ∃ r0c1 : Int, H4.cell ⟨x4b, 1, none⟩ = some (Value.int .i64 r0c1) ∧ R (Value.tuple ⟨[(Value.agg ⟨[(Value.int .i64 r0c0), (Value.int .i64 r0c1)]⟩), (Value.int .i64 1)]⟩) H4)
 (IfB (decide (((b1n : Int) : Int) > 1514))
 (StCell H2 ⟨x4b, 0, none⟩ (Value.int .i64 0) fun H5 =>
 StCell H5 ⟨x4b, 1, none⟩ (Value.int .i64 0) fun H6 =>
 ∃ r0c0_1 : Int, H6.cell ⟨x4b, 0, none⟩ = some (Value.int .i64 r0c0_1) ∧ ∃ r0c1_1 : Int, H6.cell ⟨x4b, 1, none⟩ = some (Value.int .i64 r0c1_1) ∧ R (Value.tuple ⟨[(Value.agg ⟨[(Value.int .i64 r0c0_1), (Value.int .i64 r0c1_1)]⟩), (Value.int .i64 3)]⟩) H6)
 (∃ x21 : Int, H2.cell ⟨p0b, 258, none⟩ = some (Value.int .i64 x21) ∧
 IfB ((x21 : Int) == 0)
 (StCell H2 ⟨x4b, 0, none⟩ (Value.int .i64 0) fun H7 =>
 StCell H7 ⟨x4b, 1, none⟩ (Value.int .i64 0) fun H8 =>
 ∃ r0c0_2 : Int, H8.cell ⟨x4b, 0, none⟩ = some (Value.int .i64 r0c0_2) ∧ ∃ r0c1_2 : Int, H8.cell ⟨x4b, 1, none⟩ = some (Value.int .i64 r0c1_2) ∧ R (Value.tuple ⟨[(Value.agg ⟨[(Value.int .i64 r0c0_2), (Value.int .i64 r0c1_2)]⟩), (Value.int .i64 4)]⟩) H8)
 (∃ x28 : Int, H2.cell ⟨p0b, 257, none⟩ = some (Value.int .i64 x28) ∧
 InB x28 256 fun x31i =>
 ∃ x32 : Int, H2.cell ⟨p0b, 1 + x31i * 1, none⟩ = some (Value.int .i64 x32) ∧
 ∃ x37 : Int, H2.cell ⟨p0b, 257, none⟩ = some (Value.int .i64 x37) ∧
 (256 : Int) ≠ 0 ∧
 StCell H2 ⟨p0b, 257, none⟩ (Value.int .i64 (Int.tmod (IntKind.wrap .i64 (x37 + 1)) 256)) fun H9 =>
 ∃ x45 : Int, H9.cell ⟨p0b, 258, none⟩ = some (Value.int .i64 x45) ∧
 StCell H9 ⟨p0b, 258, none⟩ (Value.int .i64 (IntKind.wrap .i64 (x45 - 1))) fun H10 =>
 ∃ x52 : Int, H10.cell ⟨p0b, 259, none⟩ = some (Value.int .i64 x52) ∧
 StCell H10 ⟨p0b, 259, none⟩ (Value.int .i64 (IntKind.wrap .i64 (x52 + 1))) fun H11 =>
 ∃ (x59a : Option Addr) (x59n x59c : Nat), H11.cell ⟨p0b, 0, none⟩ = some (Value.slice x59a x59n x59c) ∧
 ∃ x64 : Int, H11.cell ⟨p0b, 259, none⟩ = some (Value.int .i64 x64) ∧
 NilP x59a fun x65q =>
 InB x32 x59n fun x65i =>
 elemAt x65q x65i 1516 fun x65p =>
 StCell H11 x65p (Value.int .i64 x64) fun H12 =>
 ∃ (x70a : Option Addr) (x70n x70c : Nat), H12.cell ⟨p0b, 0, none⟩ = some (Value.slice x70a x70n x70c) ∧
 NilP x70a fun x72q =>
 InB x32 x70n fun x72i =>
 elemAt x72q x72i 1516 fun x72p =>
 FnW Try.prog f_pool_buffer_fill ⟨[(Value.pointer (some x72p)), (Value.slice b1a b1n b1c)]⟩ H12 fun x74v H13 =>
 x74v = (Value.tuple ⟨[]⟩) ∧
 ∃ x79 : Int, H13.cell ⟨p0b, 259, none⟩ = some (Value.int .i64 x79) ∧
 StCell H13 ⟨x4b, 0, none⟩ (Value.int .i64 x32) fun H14 =>
 StCell H14 ⟨x4b, 1, none⟩ (Value.int .i64 x79) fun H15 =>
 ∃ r0c0_3 : Int, H15.cell ⟨x4b, 0, none⟩ = some (Value.int .i64 r0c0_3) ∧ ∃ r0c1_3 : Int, H15.cell ⟨x4b, 1, none⟩ = some (Value.int .i64 r0c1_3) ∧ R (Value.tuple ⟨[(Value.agg ⟨[(Value.int .i64 r0c0_3), (Value.int .i64 r0c1_3)]⟩), (Value.int .i64 0)]⟩) H15)))
theorem pool_Pool_Lend_eq (p0b : Nat) (b1a : Option Addr) (b1n : Nat) (b1c : Nat) (H : Heap) (R : Value → Heap → Prop) : pool_Pool_Lend_p p0b b1a b1n b1c H R = CodeW Try.prog plan_pool_Pool_Lend (bodyOf Try.f14) (env0 [(Value.pointer (some ⟨p0b, 0, none⟩)), (Value.slice b1a b1n b1c)]) H (RetW Try.prog Try.f14.results.toList R) := by kernel_rfl
theorem pool_Pool_Lend_sh (p0b : Nat) (b1a : Option Addr) (b1n : Nat) (b1c : Nat) {H : Heap} {R : Value → Heap → Prop} (h : pool_Pool_Lend_p p0b b1a b1n b1c H R) : FnW Try.prog f_pool_Pool_Lend ⟨[(Value.pointer (some ⟨p0b, 0, none⟩)), (Value.slice b1a b1n b1c)]⟩ H R := FnW.of_code k_pool_Pool_Lend rfl (Eq.mp (pool_Pool_Lend_eq p0b b1a b1n b1c H R) h)
def pool_Pool_Lend_nil_p (b1a : Option Addr) (b1n : Nat) (b1c : Nat) (H : Heap) (R : Value → Heap → Prop) : Prop :=
 NewW H (Obj.cells ⟨[(Value.int .i64 0), (Value.int .i64 0)]⟩ T_pool_Handle) fun x4b H1 =>
 FnW Try.prog f_pool_Pool_is ⟨[(Value.pointer none)]⟩ H1 fun x9v H2 =>
 ∃ x9 : Bool, x9v = (Value.bool x9) ∧
 IfB (!x9)
 (StCell H2 ⟨x4b, 0, none⟩ (Value.int .i64 0) fun H3 =>
 StCell H3 ⟨x4b, 1, none⟩ (Value.int .i64 0) fun H4 =>
 ∃ r0c0 : Int, H4.cell ⟨x4b, 0, none⟩ = some (Value.int .i64 r0c0) ∧ ∃ r0c1 : Int, H4.cell ⟨x4b, 1, none⟩ = some (Value.int .i64 r0c1) ∧ R (Value.tuple ⟨[(Value.agg ⟨[(Value.int .i64 r0c0), (Value.int .i64 r0c1)]⟩), (Value.int .i64 1)]⟩) H4)
 (IfB (decide (((b1n : Int) : Int) > 1514))
 (StCell H2 ⟨x4b, 0, none⟩ (Value.int .i64 0) fun H5 =>
 StCell H5 ⟨x4b, 1, none⟩ (Value.int .i64 0) fun H6 =>
 ∃ r0c0_1 : Int, H6.cell ⟨x4b, 0, none⟩ = some (Value.int .i64 r0c0_1) ∧ ∃ r0c1_1 : Int, H6.cell ⟨x4b, 1, none⟩ = some (Value.int .i64 r0c1_1) ∧ R (Value.tuple ⟨[(Value.agg ⟨[(Value.int .i64 r0c0_1), (Value.int .i64 r0c1_1)]⟩), (Value.int .i64 3)]⟩) H6)
 (False))
theorem pool_Pool_Lend_nil_eq (b1a : Option Addr) (b1n : Nat) (b1c : Nat) (H : Heap) (R : Value → Heap → Prop) : pool_Pool_Lend_nil_p b1a b1n b1c H R = CodeW Try.prog plan_pool_Pool_Lend (bodyOf Try.f14) (env0 [(Value.pointer none), (Value.slice b1a b1n b1c)]) H (RetW Try.prog Try.f14.results.toList R) := by kernel_rfl
theorem pool_Pool_Lend_nil_sh (b1a : Option Addr) (b1n : Nat) (b1c : Nat) {H : Heap} {R : Value → Heap → Prop} (h : pool_Pool_Lend_nil_p b1a b1n b1c H R) : FnW Try.prog f_pool_Pool_Lend ⟨[(Value.pointer none), (Value.slice b1a b1n b1c)]⟩ H R := FnW.of_code k_pool_Pool_Lend rfl (Eq.mp (pool_Pool_Lend_nil_eq b1a b1n b1c H R) h)
def plan_pool_Pool_Read : Plan := ⟨[(4, [1, 2, 3, 4, 5, 6, 7, 8, 10, 0, 9, 11, 12], [])], []⟩
theorem k_pool_Pool_Read : Known Try.prog f_pool_Pool_Read Try.f15 plan_pool_Pool_Read (bodyOf Try.f15) := ⟨Try.func15, by kernel_rfl, by kernel_rfl, by kernel_rfl, by kernel_rfl, by kernel_rfl⟩
def pool_Pool_Read_p (p0b : Nat) (h1c0 : Int) (h1c1 : Int) (H : Heap) (R : Value → Heap → Prop) : Prop :=
 NewW H (Obj.cells ⟨[(Value.int .i64 h1c0), (Value.int .i64 h1c1)]⟩ T_pool_Handle) fun h3b H1 =>
 ∃ x10c0 : Int, H1.cell ⟨h3b, 0, none⟩ = some (Value.int .i64 x10c0) ∧ ∃ x10c1 : Int, H1.cell ⟨h3b, 1, none⟩ = some (Value.int .i64 x10c1) ∧ FnW Try.prog f_pool_Pool_find ⟨[(Value.pointer (some ⟨p0b, 0, none⟩)), (Value.agg ⟨[(Value.int .i64 x10c0), (Value.int .i64 x10c1)]⟩)]⟩ H1 fun x11v H2 =>
 ∃ x11r0 : Option Addr, ∃ x11r1 : Int, x11v = (Value.tuple ⟨[(Value.pointer x11r0), (Value.int .i64 x11r1)]⟩) ∧
 IfB ((x11r1 : Int) != 0)
 (R (Value.tuple ⟨[(Value.slice none 0 0), (Value.int .i64 x11r1)]⟩) H2)
 (NilP x11r0 fun x19p =>
 NilP x11r0 fun x22p =>
 ∃ x24 : Int, H2.cell ⟨x22p.block, x22p.off + 1, none⟩ = some (Value.int .i64 x24) ∧
 InC x24 1514 fun x25h =>
 NewW H2 (Obj.cells ⟨[]⟩ T_uint8) fun x17b H3 =>
 AppW Try.prog #[T_sl_uint8, T_sl_uint8] T_sl_uint8 [(Value.slice (some ⟨x17b, 0, none⟩) 0 0), (Value.slice (some ⟨x19p.block, x19p.off + 2, none⟩) x25h 1514)] H3 fun x26v H4 =>
 ∃ (x26a : Option Addr) (x26n x26c : Nat), x26v = (Value.slice x26a x26n x26c) ∧
 R (Value.tuple ⟨[(Value.slice x26a x26n x26c), (Value.int .i64 x11r1)]⟩) H4)
theorem pool_Pool_Read_eq (p0b : Nat) (h1c0 : Int) (h1c1 : Int) (H : Heap) (R : Value → Heap → Prop) : pool_Pool_Read_p p0b h1c0 h1c1 H R = CodeW Try.prog plan_pool_Pool_Read (bodyOf Try.f15) (env0 [(Value.pointer (some ⟨p0b, 0, none⟩)), (Value.agg ⟨[(Value.int .i64 h1c0), (Value.int .i64 h1c1)]⟩)]) H (RetW Try.prog Try.f15.results.toList R) := by kernel_rfl
theorem pool_Pool_Read_sh (p0b : Nat) (h1c0 : Int) (h1c1 : Int) {H : Heap} {R : Value → Heap → Prop} (h : pool_Pool_Read_p p0b h1c0 h1c1 H R) : FnW Try.prog f_pool_Pool_Read ⟨[(Value.pointer (some ⟨p0b, 0, none⟩)), (Value.agg ⟨[(Value.int .i64 h1c0), (Value.int .i64 h1c1)]⟩)]⟩ H R := FnW.of_code k_pool_Pool_Read rfl (Eq.mp (pool_Pool_Read_eq p0b h1c0 h1c1 H R) h)
def pool_Pool_Read_nil_p (h1c0 : Int) (h1c1 : Int) (H : Heap) (R : Value → Heap → Prop) : Prop :=
 NewW H (Obj.cells ⟨[(Value.int .i64 h1c0), (Value.int .i64 h1c1)]⟩ T_pool_Handle) fun h3b H1 =>
 ∃ x10c0 : Int, H1.cell ⟨h3b, 0, none⟩ = some (Value.int .i64 x10c0) ∧ ∃ x10c1 : Int, H1.cell ⟨h3b, 1, none⟩ = some (Value.int .i64 x10c1) ∧ FnW Try.prog f_pool_Pool_find ⟨[(Value.pointer none), (Value.agg ⟨[(Value.int .i64 x10c0), (Value.int .i64 x10c1)]⟩)]⟩ H1 fun x11v H2 =>
 ∃ x11r0 : Option Addr, ∃ x11r1 : Int, x11v = (Value.tuple ⟨[(Value.pointer x11r0), (Value.int .i64 x11r1)]⟩) ∧
 IfB ((x11r1 : Int) != 0)
 (R (Value.tuple ⟨[(Value.slice none 0 0), (Value.int .i64 x11r1)]⟩) H2)
 (NilP x11r0 fun x19p =>
 NilP x11r0 fun x22p =>
 ∃ x24 : Int, H2.cell ⟨x22p.block, x22p.off + 1, none⟩ = some (Value.int .i64 x24) ∧
 InC x24 1514 fun x25h =>
 NewW H2 (Obj.cells ⟨[]⟩ T_uint8) fun x17b H3 =>
 AppW Try.prog #[T_sl_uint8, T_sl_uint8] T_sl_uint8 [(Value.slice (some ⟨x17b, 0, none⟩) 0 0), (Value.slice (some ⟨x19p.block, x19p.off + 2, none⟩) x25h 1514)] H3 fun x26v H4 =>
 ∃ (x26a : Option Addr) (x26n x26c : Nat), x26v = (Value.slice x26a x26n x26c) ∧
 R (Value.tuple ⟨[(Value.slice x26a x26n x26c), (Value.int .i64 x11r1)]⟩) H4)
theorem pool_Pool_Read_nil_eq (h1c0 : Int) (h1c1 : Int) (H : Heap) (R : Value → Heap → Prop) : pool_Pool_Read_nil_p h1c0 h1c1 H R = CodeW Try.prog plan_pool_Pool_Read (bodyOf Try.f15) (env0 [(Value.pointer none), (Value.agg ⟨[(Value.int .i64 h1c0), (Value.int .i64 h1c1)]⟩)]) H (RetW Try.prog Try.f15.results.toList R) := by kernel_rfl
theorem pool_Pool_Read_nil_sh (h1c0 : Int) (h1c1 : Int) {H : Heap} {R : Value → Heap → Prop} (h : pool_Pool_Read_nil_p h1c0 h1c1 H R) : FnW Try.prog f_pool_Pool_Read ⟨[(Value.pointer none), (Value.agg ⟨[(Value.int .i64 h1c0), (Value.int .i64 h1c1)]⟩)]⟩ H R := FnW.of_code k_pool_Pool_Read rfl (Eq.mp (pool_Pool_Read_nil_eq h1c0 h1c1 H R) h)
def plan_pool_Pool_Write : Plan := ⟨[], []⟩
theorem k_pool_Pool_Write : Known Try.prog f_pool_Pool_Write Try.f16 plan_pool_Pool_Write (bodyOf Try.f16) := ⟨Try.func16, by kernel_rfl, by kernel_rfl, by kernel_rfl, by kernel_rfl, by kernel_rfl⟩
def pool_Pool_Write_p (p0b : Nat) (h1c0 : Int) (h1c1 : Int) (x2a : Option Addr) (x2n : Nat) (x2c : Nat) (H : Heap) (R : Value → Heap → Prop) : Prop :=
 NewW H (Obj.cells ⟨[(Value.int .i64 h1c0), (Value.int .i64 h1c1)]⟩ T_pool_Handle) fun h4b H1 =>
 ∃ x11c0 : Int, H1.cell ⟨h4b, 0, none⟩ = some (Value.int .i64 x11c0) ∧ ∃ x11c1 : Int, H1.cell ⟨h4b, 1, none⟩ = some (Value.int .i64 x11c1) ∧ FnW Try.prog f_pool_Pool_find ⟨[(Value.pointer (some ⟨p0b, 0, none⟩)), (Value.agg ⟨[(Value.int .i64 x11c0), (Value.int .i64 x11c1)]⟩)]⟩ H1 fun x12v H2 =>
 ∃ x12r0 : Option Addr, ∃ x12r1 : Int, x12v = (Value.tuple ⟨[(Value.pointer x12r0), (Value.int .i64 x12r1)]⟩) ∧
 IfB ((x12r1 : Int) != 0)
 (R (Value.int .i64 x12r1) H2)
 (IfB (decide (((x2n : Int) : Int) > 1514))
 (R (Value.int .i64 3) H2)
 (FnW Try.prog f_pool_buffer_fill ⟨[(Value.pointer x12r0), (Value.slice x2a x2n x2c)]⟩ H2 fun x25v H3 =>
 x25v = (Value.tuple ⟨[]⟩) ∧
 R (Value.int .i64 x12r1) H3))
theorem pool_Pool_Write_eq (p0b : Nat) (h1c0 : Int) (h1c1 : Int) (x2a : Option Addr) (x2n : Nat) (x2c : Nat) (H : Heap) (R : Value → Heap → Prop) : pool_Pool_Write_p p0b h1c0 h1c1 x2a x2n x2c H R = CodeW Try.prog plan_pool_Pool_Write (bodyOf Try.f16) (env0 [(Value.pointer (some ⟨p0b, 0, none⟩)), (Value.agg ⟨[(Value.int .i64 h1c0), (Value.int .i64 h1c1)]⟩), (Value.slice x2a x2n x2c)]) H (RetW Try.prog Try.f16.results.toList R) := by kernel_rfl
theorem pool_Pool_Write_sh (p0b : Nat) (h1c0 : Int) (h1c1 : Int) (x2a : Option Addr) (x2n : Nat) (x2c : Nat) {H : Heap} {R : Value → Heap → Prop} (h : pool_Pool_Write_p p0b h1c0 h1c1 x2a x2n x2c H R) : FnW Try.prog f_pool_Pool_Write ⟨[(Value.pointer (some ⟨p0b, 0, none⟩)), (Value.agg ⟨[(Value.int .i64 h1c0), (Value.int .i64 h1c1)]⟩), (Value.slice x2a x2n x2c)]⟩ H R := FnW.of_code k_pool_Pool_Write rfl (Eq.mp (pool_Pool_Write_eq p0b h1c0 h1c1 x2a x2n x2c H R) h)
def pool_Pool_Write_nil_p (h1c0 : Int) (h1c1 : Int) (x2a : Option Addr) (x2n : Nat) (x2c : Nat) (H : Heap) (R : Value → Heap → Prop) : Prop :=
 NewW H (Obj.cells ⟨[(Value.int .i64 h1c0), (Value.int .i64 h1c1)]⟩ T_pool_Handle) fun h4b H1 =>
 ∃ x11c0 : Int, H1.cell ⟨h4b, 0, none⟩ = some (Value.int .i64 x11c0) ∧ ∃ x11c1 : Int, H1.cell ⟨h4b, 1, none⟩ = some (Value.int .i64 x11c1) ∧ FnW Try.prog f_pool_Pool_find ⟨[(Value.pointer none), (Value.agg ⟨[(Value.int .i64 x11c0), (Value.int .i64 x11c1)]⟩)]⟩ H1 fun x12v H2 =>
 ∃ x12r0 : Option Addr, ∃ x12r1 : Int, x12v = (Value.tuple ⟨[(Value.pointer x12r0), (Value.int .i64 x12r1)]⟩) ∧
 IfB ((x12r1 : Int) != 0)
 (R (Value.int .i64 x12r1) H2)
 (IfB (decide (((x2n : Int) : Int) > 1514))
 (R (Value.int .i64 3) H2)
 (FnW Try.prog f_pool_buffer_fill ⟨[(Value.pointer x12r0), (Value.slice x2a x2n x2c)]⟩ H2 fun x25v H3 =>
 x25v = (Value.tuple ⟨[]⟩) ∧
 R (Value.int .i64 x12r1) H3))
theorem pool_Pool_Write_nil_eq (h1c0 : Int) (h1c1 : Int) (x2a : Option Addr) (x2n : Nat) (x2c : Nat) (H : Heap) (R : Value → Heap → Prop) : pool_Pool_Write_nil_p h1c0 h1c1 x2a x2n x2c H R = CodeW Try.prog plan_pool_Pool_Write (bodyOf Try.f16) (env0 [(Value.pointer none), (Value.agg ⟨[(Value.int .i64 h1c0), (Value.int .i64 h1c1)]⟩), (Value.slice x2a x2n x2c)]) H (RetW Try.prog Try.f16.results.toList R) := by kernel_rfl
theorem pool_Pool_Write_nil_sh (h1c0 : Int) (h1c1 : Int) (x2a : Option Addr) (x2n : Nat) (x2c : Nat) {H : Heap} {R : Value → Heap → Prop} (h : pool_Pool_Write_nil_p h1c0 h1c1 x2a x2n x2c H R) : FnW Try.prog f_pool_Pool_Write ⟨[(Value.pointer none), (Value.agg ⟨[(Value.int .i64 h1c0), (Value.int .i64 h1c1)]⟩), (Value.slice x2a x2n x2c)]⟩ H R := FnW.of_code k_pool_Pool_Write rfl (Eq.mp (pool_Pool_Write_nil_eq h1c0 h1c1 x2a x2n x2c H R) h)
def plan_base_SameBytes : Plan := ⟨[], []⟩
theorem k_base_SameBytes : Known Try.prog f_base_SameBytes Try.f17 plan_base_SameBytes (bodyOf Try.f17) := ⟨Try.func17, by kernel_rfl, by kernel_rfl, by kernel_rfl, by kernel_rfl, by kernel_rfl⟩
def base_SameBytes_p (a0a : Option Addr) (a0n : Nat) (a0c : Nat) (b1a : Option Addr) (b1n : Nat) (b1c : Nat) (H : Heap) (R : Value → Heap → Prop) : Prop :=
 SemW Try.prog (convert T_sl_uint8 T_string (Value.slice a0a a0n a0c)) H fun x6v H1 =>
 ∃ x6 : ByteArray, x6v = (Value.string x6) ∧
 SemW Try.prog (convert T_sl_uint8 T_string (Value.slice b1a b1n b1c)) H1 fun x8v H2 =>
 ∃ x8 : ByteArray, x8v = (Value.string x8) ∧
 R (Value.bool (x6.toList == x8.toList)) H2
theorem base_SameBytes_eq (a0a : Option Addr) (a0n : Nat) (a0c : Nat) (b1a : Option Addr) (b1n : Nat) (b1c : Nat) (H : Heap) (R : Value → Heap → Prop) : base_SameBytes_p a0a a0n a0c b1a b1n b1c H R = CodeW Try.prog plan_base_SameBytes (bodyOf Try.f17) (env0 [(Value.slice a0a a0n a0c), (Value.slice b1a b1n b1c)]) H (RetW Try.prog Try.f17.results.toList R) := by kernel_rfl
theorem base_SameBytes_sh (a0a : Option Addr) (a0n : Nat) (a0c : Nat) (b1a : Option Addr) (b1n : Nat) (b1c : Nat) {H : Heap} {R : Value → Heap → Prop} (h : base_SameBytes_p a0a a0n a0c b1a b1n b1c H R) : FnW Try.prog f_base_SameBytes ⟨[(Value.slice a0a a0n a0c), (Value.slice b1a b1n b1c)]⟩ H R := FnW.of_code k_base_SameBytes rfl (Eq.mp (base_SameBytes_eq a0a a0n a0c b1a b1n b1c H R) h)
def plan_base_Among : Plan := ⟨[], []⟩
theorem k_base_Among : Known Try.prog f_base_Among Try.f18 plan_base_Among (bodyOf Try.f18) := ⟨Try.func18, by kernel_rfl, by kernel_rfl, by kernel_rfl, by kernel_rfl, by kernel_rfl⟩
def base_Among_p (x0 : Int) (n1 : Int) (H : Heap) (R : Value → Heap → Prop) : Prop :=
 IfB (decide ((n1 : Int) < 1))
 (R (Value.int .i64 0) H)
 (((IntKind.wrap .u64 n1) : Int) ≠ 0 ∧
 R (Value.int .i64 (IntKind.wrap .i64 (Int.tmod (IntKind.wrap .u64 x0) (IntKind.wrap .u64 n1)))) H)
theorem base_Among_eq (x0 : Int) (n1 : Int) (H : Heap) (R : Value → Heap → Prop) : base_Among_p x0 n1 H R = CodeW Try.prog plan_base_Among (bodyOf Try.f18) (env0 [(Value.int .i64 x0), (Value.int .i64 n1)]) H (RetW Try.prog Try.f18.results.toList R) := by kernel_rfl
theorem base_Among_sh (x0 : Int) (n1 : Int) {H : Heap} {R : Value → Heap → Prop} (h : base_Among_p x0 n1 H R) : FnW Try.prog f_base_Among ⟨[(Value.int .i64 x0), (Value.int .i64 n1)]⟩ H R := FnW.of_code k_base_Among rfl (Eq.mp (base_Among_eq x0 n1 H R) h)
def plan_ref02_Make : Plan := ⟨[], [(5, [5], [.int .i64], [0, 4])]⟩
theorem k_ref02_Make : Known Try.prog f_ref02_Make Try.f19 plan_ref02_Make (bodyOf Try.f19) := ⟨Try.func19, by kernel_rfl, by kernel_rfl, by kernel_rfl, by kernel_rfl, by kernel_rfl⟩
def ref02_Make_l5 (n0 : Int) (x15b : Nat) (i5 : Int) (H4 : Heap) (next5 : (Int × Unit) → Heap → Prop) (R : Value → Heap → Prop) : Prop :=
 IfB (decide ((i5 : Int) < n0))
 (∃ (x25a : Option Addr) (x25n x25c : Nat), H4.cell ⟨x15b, 1, none⟩ = some (Value.slice x25a x25n x25c) ∧
 NewW H4 (Obj.cells ⟨[(Value.int .i64 i5)]⟩ T_int) fun x27b H5 =>
 AppW Try.prog #[T_sl_int, T_sl_int] T_sl_int [(Value.slice x25a x25n x25c), (Value.slice (some ⟨x27b, 0, none⟩) 1 1)] H5 fun x28v H6 =>
 ∃ (x28a : Option Addr) (x28n x28c : Nat), x28v = (Value.slice x28a x28n x28c) ∧
 StCell H6 ⟨x15b, 1, none⟩ (Value.slice x28a x28n x28c) fun H7 =>
 next5 ((IntKind.wrap .i64 (i5 + 1)), ()) H7)
 (R (Value.tuple ⟨[(Value.pointer (some ⟨x15b, 0, none⟩)), (Value.int .i64 0)]⟩) H4)
def ref02_Make_j0 (n0 : Int) (x11 : Bool) (H1 : Heap) (R : Value → Heap → Prop) : Prop :=
 IfB x11
 (R (Value.tuple ⟨[(Value.pointer none), (Value.int .i64 2)]⟩) H1)
 (MakeW Try.prog T_sl_pointsmanref02_Buf (Value.int .i64 n0) (Value.int .i64 n0) H1 fun x13v H2 =>
 ∃ (x13a : Option Addr) (x13n x13c : Nat), x13v = (Value.slice x13a x13n x13c) ∧
 NewW H2 (Obj.cells ⟨[(Value.slice x13a x13n x13c), (Value.slice none 0 0), (Value.int .i64 0)]⟩ T_ref02_Pool) fun x15b H3 =>
 LoopI (Int × Unit) (0, ()) H3 fun x H next => ∀ _g : Env, ref02_Make_l5 n0 x15b x.1 H next R)
def ref02_Make_p (n0 : Int) (H : Heap) (R : Value → Heap → Prop) : Prop :=
 IfB (decide ((n0 : Int) < 1))
 (ref02_Make_j0 n0 true H R)
 (ref02_Make_j0 n0 (decide ((n0 : Int) > 256)) H R)
theorem ref02_Make_eq (n0 : Int) (H : Heap) (R : Value → Heap → Prop) : ref02_Make_p n0 H R = CodeW Try.prog plan_ref02_Make (bodyOf Try.f19) (env0 [(Value.int .i64 n0)]) H (RetW Try.prog Try.f19.results.toList R) := by kernel_rfl
theorem ref02_Make_sh (n0 : Int) {H : Heap} {R : Value → Heap → Prop} (h : ref02_Make_p n0 H R) : FnW Try.prog f_ref02_Make ⟨[(Value.int .i64 n0)]⟩ H R := FnW.of_code k_ref02_Make rfl (Eq.mp (ref02_Make_eq n0 H R) h)
def plan_law02_handle : Plan := ⟨[], []⟩
theorem k_law02_handle : Known Try.prog f_law02_handle Try.f20 plan_law02_handle (bodyOf Try.f20) := ⟨Try.func20, by kernel_rfl, by kernel_rfl, by kernel_rfl, by kernel_rfl, by kernel_rfl⟩
def law02_handle_j0 (a3b : Nat) (x4b : Nat) (x8a : Option Addr) (x8n : Nat) (x8c : Nat) (x15 : Bool) (H4 : Heap) (R : Value → Heap → Prop) : Prop :=
 IfB x15
 (∃ x17c0 : Int, H4.cell ⟨a3b, 3, none⟩ = some (Value.int .i64 x17c0) ∧ ∃ x17c1 : Int, H4.cell ⟨a3b, 4, none⟩ = some (Value.int .i64 x17c1) ∧ StCell H4 ⟨x4b, 0, none⟩ (Value.int .i64 x17c0) fun H5 =>
 StCell H5 ⟨x4b, 1, none⟩ (Value.int .i64 x17c1) fun H6 =>
 ∃ r0c0 : Int, H6.cell ⟨x4b, 0, none⟩ = some (Value.int .i64 r0c0) ∧ ∃ r0c1 : Int, H6.cell ⟨x4b, 1, none⟩ = some (Value.int .i64 r0c1) ∧ R (Value.agg ⟨[(Value.int .i64 r0c0), (Value.int .i64 r0c1)]⟩) H6)
 (∃ x20 : Int, H4.cell ⟨a3b, 1, none⟩ = some (Value.int .i64 x20) ∧
 FnW Try.prog f_base_Among ⟨[(Value.int .i64 x20), (Value.int .i64 (x8n : Int))]⟩ H4 fun x23v H7 =>
 ∃ x23 : Int, x23v = (Value.int .i64 x23) ∧
 NilP x8a fun x24q =>
 InB x23 x8n fun x24i =>
 elemAt x24q x24i 2 fun x24p =>
 ∃ x25c0 : Int, H7.cell x24p = some (Value.int .i64 x25c0) ∧ ∃ x25c1 : Int, H7.cell ⟨x24p.block, x24p.off + 1, none⟩ = some (Value.int .i64 x25c1) ∧ NewW H7 (Obj.cells ⟨[(Value.int .i64 0), (Value.int .i64 0)]⟩ T_ref02_Handle) fun h6b H8 =>
 StCell H8 ⟨h6b, 0, none⟩ (Value.int .i64 x25c0) fun H9 =>
 StCell H9 ⟨h6b, 1, none⟩ (Value.int .i64 x25c1) fun H10 =>
 ∃ x27 : Int, H10.cell ⟨h6b, 0, none⟩ = some (Value.int .i64 x27) ∧
 ∃ x29 : Int, H10.cell ⟨h6b, 1, none⟩ = some (Value.int .i64 x29) ∧
 StCell H10 ⟨x4b, 0, none⟩ (Value.int .i64 x27) fun H11 =>
 StCell H11 ⟨x4b, 1, none⟩ (Value.int .i64 x29) fun H12 =>
 ∃ r0c0_1 : Int, H12.cell ⟨x4b, 0, none⟩ = some (Value.int .i64 r0c0_1) ∧ ∃ r0c1_1 : Int, H12.cell ⟨x4b, 1, none⟩ = some (Value.int .i64 r0c1_1) ∧ R (Value.agg ⟨[(Value.int .i64 r0c0_1), (Value.int .i64 r0c1_1)]⟩) H12)
def law02_handle_p (y0b : Nat) (a1c0 : Int) (a1c1 : Int) (a1c2 : Bool) (a1c3 : Int) (a1c4 : Int) (a1c5a : Option Addr) (a1c5n : Nat) (a1c5c : Nat) (H : Heap) (R : Value → Heap → Prop) : Prop :=
 NewW H (Obj.cells ⟨[(Value.int .i64 a1c0), (Value.int .i64 a1c1), (Value.bool a1c2), (Value.int .i64 a1c3), (Value.int .i64 a1c4), (Value.slice a1c5a a1c5n a1c5c)]⟩ T_law02_Act) fun a3b H1 =>
 NewW H1 (Obj.cells ⟨[(Value.int .i64 0), (Value.int .i64 0)]⟩ T_pool_Handle) fun x4b H2 =>
 FnW Try.prog f_ref02_Pool_Lent ⟨[(Value.pointer (some ⟨y0b, 0, none⟩))]⟩ H2 fun x8v H3 =>
 ∃ (x8a : Option Addr) (x8n x8c : Nat), x8v = (Value.slice x8a x8n x8c) ∧
 ∃ x10 : Bool, H3.cell ⟨a3b, 2, none⟩ = some (Value.bool x10) ∧
 IfB x10
 (law02_handle_j0 a3b x4b x8a x8n x8c true H3 R)
 (law02_handle_j0 a3b x4b x8a x8n x8c (((x8n : Int) : Int) == 0) H3 R)
theorem law02_handle_eq (y0b : Nat) (a1c0 : Int) (a1c1 : Int) (a1c2 : Bool) (a1c3 : Int) (a1c4 : Int) (a1c5a : Option Addr) (a1c5n : Nat) (a1c5c : Nat) (H : Heap) (R : Value → Heap → Prop) : law02_handle_p y0b a1c0 a1c1 a1c2 a1c3 a1c4 a1c5a a1c5n a1c5c H R = CodeW Try.prog plan_law02_handle (bodyOf Try.f20) (env0 [(Value.pointer (some ⟨y0b, 0, none⟩)), (Value.agg ⟨[(Value.int .i64 a1c0), (Value.int .i64 a1c1), (Value.bool a1c2), (Value.int .i64 a1c3), (Value.int .i64 a1c4), (Value.slice a1c5a a1c5n a1c5c)]⟩)]) H (RetW Try.prog Try.f20.results.toList R) := by kernel_rfl
theorem law02_handle_sh (y0b : Nat) (a1c0 : Int) (a1c1 : Int) (a1c2 : Bool) (a1c3 : Int) (a1c4 : Int) (a1c5a : Option Addr) (a1c5n : Nat) (a1c5c : Nat) {H : Heap} {R : Value → Heap → Prop} (h : law02_handle_p y0b a1c0 a1c1 a1c2 a1c3 a1c4 a1c5a a1c5n a1c5c H R) : FnW Try.prog f_law02_handle ⟨[(Value.pointer (some ⟨y0b, 0, none⟩)), (Value.agg ⟨[(Value.int .i64 a1c0), (Value.int .i64 a1c1), (Value.bool a1c2), (Value.int .i64 a1c3), (Value.int .i64 a1c4), (Value.slice a1c5a a1c5n a1c5c)]⟩)]⟩ H R := FnW.of_code k_law02_handle rfl (Eq.mp (law02_handle_eq y0b a1c0 a1c1 a1c2 a1c3 a1c4 a1c5a a1c5n a1c5c H R) h)
def plan_pool_Pool_Give : Plan := ⟨[], []⟩
theorem k_pool_Pool_Give : Known Try.prog f_pool_Pool_Give Try.f21 plan_pool_Pool_Give (bodyOf Try.f21) := ⟨Try.func21, by kernel_rfl, by kernel_rfl, by kernel_rfl, by kernel_rfl, by kernel_rfl⟩
def pool_Pool_Give_p (p0b : Nat) (h1c0 : Int) (h1c1 : Int) (H : Heap) (R : Value → Heap → Prop) : Prop :=
 NewW H (Obj.cells ⟨[(Value.int .i64 h1c0), (Value.int .i64 h1c1)]⟩ T_pool_Handle) fun h3b H1 =>
 ∃ x9c0 : Int, H1.cell ⟨h3b, 0, none⟩ = some (Value.int .i64 x9c0) ∧ ∃ x9c1 : Int, H1.cell ⟨h3b, 1, none⟩ = some (Value.int .i64 x9c1) ∧ FnW Try.prog f_pool_Pool_find ⟨[(Value.pointer (some ⟨p0b, 0, none⟩)), (Value.agg ⟨[(Value.int .i64 x9c0), (Value.int .i64 x9c1)]⟩)]⟩ H1 fun x10v H2 =>
 ∃ x10r0 : Option Addr, ∃ x10r1 : Int, x10v = (Value.tuple ⟨[(Value.pointer x10r0), (Value.int .i64 x10r1)]⟩) ∧
 IfB ((x10r1 : Int) != 0)
 (R (Value.int .i64 x10r1) H2)
 (NilP x10r0 fun x17p =>
 StCell H2 x17p (Value.int .i64 0) fun H3 =>
 ∃ x23 : Int, H3.cell ⟨p0b, 257, none⟩ = some (Value.int .i64 x23) ∧
 ∃ x27 : Int, H3.cell ⟨p0b, 258, none⟩ = some (Value.int .i64 x27) ∧
 (256 : Int) ≠ 0 ∧
 ∃ x31 : Int, H3.cell ⟨h3b, 0, none⟩ = some (Value.int .i64 x31) ∧
 InB (Int.tmod (IntKind.wrap .i64 (x23 + x27)) 256) 256 fun x34i =>
 StCell H3 ⟨p0b, 1 + x34i * 1, none⟩ (Value.int .i64 x31) fun H4 =>
 ∃ x38 : Int, H4.cell ⟨p0b, 258, none⟩ = some (Value.int .i64 x38) ∧
 StCell H4 ⟨p0b, 258, none⟩ (Value.int .i64 (IntKind.wrap .i64 (x38 + 1))) fun H5 =>
 R (Value.int .i64 x10r1) H5)
theorem pool_Pool_Give_eq (p0b : Nat) (h1c0 : Int) (h1c1 : Int) (H : Heap) (R : Value → Heap → Prop) : pool_Pool_Give_p p0b h1c0 h1c1 H R = CodeW Try.prog plan_pool_Pool_Give (bodyOf Try.f21) (env0 [(Value.pointer (some ⟨p0b, 0, none⟩)), (Value.agg ⟨[(Value.int .i64 h1c0), (Value.int .i64 h1c1)]⟩)]) H (RetW Try.prog Try.f21.results.toList R) := by kernel_rfl
theorem pool_Pool_Give_sh (p0b : Nat) (h1c0 : Int) (h1c1 : Int) {H : Heap} {R : Value → Heap → Prop} (h : pool_Pool_Give_p p0b h1c0 h1c1 H R) : FnW Try.prog f_pool_Pool_Give ⟨[(Value.pointer (some ⟨p0b, 0, none⟩)), (Value.agg ⟨[(Value.int .i64 h1c0), (Value.int .i64 h1c1)]⟩)]⟩ H R := FnW.of_code k_pool_Pool_Give rfl (Eq.mp (pool_Pool_Give_eq p0b h1c0 h1c1 H R) h)
def pool_Pool_Give_nil_p (h1c0 : Int) (h1c1 : Int) (H : Heap) (R : Value → Heap → Prop) : Prop :=
 NewW H (Obj.cells ⟨[(Value.int .i64 h1c0), (Value.int .i64 h1c1)]⟩ T_pool_Handle) fun h3b H1 =>
 ∃ x9c0 : Int, H1.cell ⟨h3b, 0, none⟩ = some (Value.int .i64 x9c0) ∧ ∃ x9c1 : Int, H1.cell ⟨h3b, 1, none⟩ = some (Value.int .i64 x9c1) ∧ FnW Try.prog f_pool_Pool_find ⟨[(Value.pointer none), (Value.agg ⟨[(Value.int .i64 x9c0), (Value.int .i64 x9c1)]⟩)]⟩ H1 fun x10v H2 =>
 ∃ x10r0 : Option Addr, ∃ x10r1 : Int, x10v = (Value.tuple ⟨[(Value.pointer x10r0), (Value.int .i64 x10r1)]⟩) ∧
 IfB ((x10r1 : Int) != 0)
 (R (Value.int .i64 x10r1) H2)
 (NilP x10r0 fun x17p =>
 StCell H2 x17p (Value.int .i64 0) fun H3 =>
 False)
theorem pool_Pool_Give_nil_eq (h1c0 : Int) (h1c1 : Int) (H : Heap) (R : Value → Heap → Prop) : pool_Pool_Give_nil_p h1c0 h1c1 H R = CodeW Try.prog plan_pool_Pool_Give (bodyOf Try.f21) (env0 [(Value.pointer none), (Value.agg ⟨[(Value.int .i64 h1c0), (Value.int .i64 h1c1)]⟩)]) H (RetW Try.prog Try.f21.results.toList R) := by kernel_rfl
theorem pool_Pool_Give_nil_sh (h1c0 : Int) (h1c1 : Int) {H : Heap} {R : Value → Heap → Prop} (h : pool_Pool_Give_nil_p h1c0 h1c1 H R) : FnW Try.prog f_pool_Pool_Give ⟨[(Value.pointer none), (Value.agg ⟨[(Value.int .i64 h1c0), (Value.int .i64 h1c1)]⟩)]⟩ H R := FnW.of_code k_pool_Pool_Give rfl (Eq.mp (pool_Pool_Give_nil_eq h1c0 h1c1 H R) h)
def plan_ref02_Pool_Give : Plan := ⟨[], []⟩
theorem k_ref02_Pool_Give : Known Try.prog f_ref02_Pool_Give Try.f22 plan_ref02_Pool_Give (bodyOf Try.f22) := ⟨Try.func22, by kernel_rfl, by kernel_rfl, by kernel_rfl, by kernel_rfl, by kernel_rfl⟩
def ref02_Pool_Give_p (p0b : Nat) (h1c0 : Int) (h1c1 : Int) (H : Heap) (R : Value → Heap → Prop) : Prop :=
 NewW H (Obj.cells ⟨[(Value.int .i64 h1c0), (Value.int .i64 h1c1)]⟩ T_ref02_Handle) fun h3b H1 =>
 ∃ x7c0 : Int, H1.cell ⟨h3b, 0, none⟩ = some (Value.int .i64 x7c0) ∧ ∃ x7c1 : Int, H1.cell ⟨h3b, 1, none⟩ = some (Value.int .i64 x7c1) ∧ FnW Try.prog f_ref02_Pool_find ⟨[(Value.pointer (some ⟨p0b, 0, none⟩)), (Value.agg ⟨[(Value.int .i64 x7c0), (Value.int .i64 x7c1)]⟩)]⟩ H1 fun x8v H2 =>
 ∃ x8 : Int, x8v = (Value.int .i64 x8) ∧
 IfB ((x8 : Int) != 0)
 (R (Value.int .i64 x8) H2)
 (∃ (x15a : Option Addr) (x15n x15c : Nat), H2.cell ⟨p0b, 0, none⟩ = some (Value.slice x15a x15n x15c) ∧
 ∃ x17 : Int, H2.cell ⟨h3b, 0, none⟩ = some (Value.int .i64 x17) ∧
 NilP x15a fun x19q =>
 InB x17 x15n fun x19i =>
 elemAt x19q x19i 2 fun x19p =>
 StCell H2 x19p (Value.int .i64 0) fun H3 =>
 StCell H3 ⟨x19p.block, x19p.off + 1, none⟩ (Value.slice none 0 0) fun H4 =>
 ∃ (x24a : Option Addr) (x24n x24c : Nat), H4.cell ⟨p0b, 1, none⟩ = some (Value.slice x24a x24n x24c) ∧
 ∃ x26 : Int, H4.cell ⟨h3b, 0, none⟩ = some (Value.int .i64 x26) ∧
 NewW H4 (Obj.cells ⟨[(Value.int .i64 x26)]⟩ T_int) fun x27b H5 =>
 AppW Try.prog #[T_sl_int, T_sl_int] T_sl_int [(Value.slice x24a x24n x24c), (Value.slice (some ⟨x27b, 0, none⟩) 1 1)] H5 fun x28v H6 =>
 ∃ (x28a : Option Addr) (x28n x28c : Nat), x28v = (Value.slice x28a x28n x28c) ∧
 StCell H6 ⟨p0b, 1, none⟩ (Value.slice x28a x28n x28c) fun H7 =>
 R (Value.int .i64 0) H7)
theorem ref02_Pool_Give_eq (p0b : Nat) (h1c0 : Int) (h1c1 : Int) (H : Heap) (R : Value → Heap → Prop) : ref02_Pool_Give_p p0b h1c0 h1c1 H R = CodeW Try.prog plan_ref02_Pool_Give (bodyOf Try.f22) (env0 [(Value.pointer (some ⟨p0b, 0, none⟩)), (Value.agg ⟨[(Value.int .i64 h1c0), (Value.int .i64 h1c1)]⟩)]) H (RetW Try.prog Try.f22.results.toList R) := by kernel_rfl
theorem ref02_Pool_Give_sh (p0b : Nat) (h1c0 : Int) (h1c1 : Int) {H : Heap} {R : Value → Heap → Prop} (h : ref02_Pool_Give_p p0b h1c0 h1c1 H R) : FnW Try.prog f_ref02_Pool_Give ⟨[(Value.pointer (some ⟨p0b, 0, none⟩)), (Value.agg ⟨[(Value.int .i64 h1c0), (Value.int .i64 h1c1)]⟩)]⟩ H R := FnW.of_code k_ref02_Pool_Give rfl (Eq.mp (ref02_Pool_Give_eq p0b h1c0 h1c1 H R) h)
def plan_ref02_Pool_Lend : Plan := ⟨[(8, [0, 1, 2, 3, 4, 5, 6, 7, 8, 9, 10, 11, 12, 13, 14], [44, 49])], []⟩
theorem k_ref02_Pool_Lend : Known Try.prog f_ref02_Pool_Lend Try.f23 plan_ref02_Pool_Lend (bodyOf Try.f23) := ⟨Try.func23, by kernel_rfl, by kernel_rfl, by kernel_rfl, by kernel_rfl, by kernel_rfl⟩
def ref02_Pool_Lend_p (p0b : Nat) (b1a : Option Addr) (b1n : Nat) (b1c : Nat) (H : Heap) (R : Value → Heap → Prop) : Prop :=
 NewW H (Obj.cells ⟨[(Value.int .i64 0), (Value.int .i64 0)]⟩ T_ref02_Handle) fun x4b H1 =>
 IfB (decide (((b1n : Int) : Int) > 1514))
 (StCell H1 ⟨x4b, 0, none⟩ (Value.int .i64 0) fun H2 =>
 StCell H2 ⟨x4b, 1, none⟩ (Value.int .i64 0) fun H3 =>
 ∃ r0c0 : Int, H3.cell ⟨x4b, 0, none⟩ = some (Value.int .i64 r0c0) ∧ ∃ r0c1 : Int, H3.cell ⟨x4b, 1, none⟩ = some (Value.int .i64 r0c1) ∧ R (Value.tuple ⟨[(Value.agg ⟨[(Value.int .i64 r0c0), (Value.int .i64 r0c1)]⟩), (Value.int .i64 3)]⟩) H3)
 (∃ (x14a : Option Addr) (x14n x14c : Nat), H1.cell ⟨p0b, 1, none⟩ = some (Value.slice x14a x14n x14c) ∧
 IfB (((x14n : Int) : Int) == 0)
 (StCell H1 ⟨x4b, 0, none⟩ (Value.int .i64 0) fun H4 =>
 StCell H4 ⟨x4b, 1, none⟩ (Value.int .i64 0) fun H5 =>
 ∃ r0c0_1 : Int, H5.cell ⟨x4b, 0, none⟩ = some (Value.int .i64 r0c0_1) ∧ ∃ r0c1_1 : Int, H5.cell ⟨x4b, 1, none⟩ = some (Value.int .i64 r0c1_1) ∧ R (Value.tuple ⟨[(Value.agg ⟨[(Value.int .i64 r0c0_1), (Value.int .i64 r0c1_1)]⟩), (Value.int .i64 4)]⟩) H5)
 (∃ (x21a : Option Addr) (x21n x21c : Nat), H1.cell ⟨p0b, 1, none⟩ = some (Value.slice x21a x21n x21c) ∧
 NilP x21a fun x22q =>
 InB 0 x21n fun x22i =>
 elemAt x22q x22i 1 fun x22p =>
 ∃ x23 : Int, H1.cell x22p = some (Value.int .i64 x23) ∧
 NewW H1 (Obj.cells ⟨[]⟩ T_int) fun x25b H6 =>
 ∃ (x29a : Option Addr) (x29n x29c : Nat), H6.cell ⟨p0b, 1, none⟩ = some (Value.slice x29a x29n x29c) ∧
 InC 1 x29n fun x30l =>
 AppW Try.prog #[T_sl_int, T_sl_int] T_sl_int [(Value.slice (some ⟨x25b, 0, none⟩) 0 0), (Value.slice (if x29c = x30l then x29a else Option.map (fun a => Addr.add a (x30l * 1)) x29a) (x29n - x30l) (x29c - x30l))] H6 fun x31v H7 =>
 ∃ (x31a : Option Addr) (x31n x31c : Nat), x31v = (Value.slice x31a x31n x31c) ∧
 StCell H7 ⟨p0b, 1, none⟩ (Value.slice x31a x31n x31c) fun H8 =>
 ∃ x37 : Int, H8.cell ⟨p0b, 2, none⟩ = some (Value.int .i64 x37) ∧
 StCell H8 ⟨p0b, 2, none⟩ (Value.int .i64 (IntKind.wrap .i64 (x37 + 1))) fun H9 =>
 ∃ bs : List Nat, (∀ b ∈ bs, ∃ o, H9 b = some o) ∧
 p0b ∈ bs ∧ ∃ (x44a : Option Addr) (x44n x44c : Nat), H9.cell ⟨p0b, 0, none⟩ = some (Value.slice x44a x44n x44c) ∧
 p0b ∈ bs ∧ ∃ x49 : Int, H9.cell ⟨p0b, 2, none⟩ = some (Value.int .i64 x49) ∧
 NewW H9 (Obj.cells ⟨[]⟩ T_uint8) fun x50b H10 =>
 AppW Try.prog #[T_sl_uint8, T_sl_uint8] T_sl_uint8 [(Value.slice (some ⟨x50b, 0, none⟩) 0 0), (Value.slice b1a b1n b1c)] H10 fun x52v H11 =>
 ∃ (x52a : Option Addr) (x52n x52c : Nat), x52v = (Value.slice x52a x52n x52c) ∧
 KeptIn bs H9 H11 ∧ NilP x44a fun x54q =>
 InB x23 x44n fun x54i =>
 elemAt x54q x54i 2 fun x54p =>
 StCell H11 x54p (Value.int .i64 x49) fun H12 =>
 StCell H12 ⟨x54p.block, x54p.off + 1, none⟩ (Value.slice x52a x52n x52c) fun H13 =>
 KeptIn bs H9 H13 ∧ ∃ x59 : Int, H13.cell ⟨p0b, 2, none⟩ = some (Value.int .i64 x59) ∧
 StCell H13 ⟨x4b, 0, none⟩ (Value.int .i64 x23) fun H14 =>
 StCell H14 ⟨x4b, 1, none⟩ (Value.int .i64 x59) fun H15 =>
 ∃ r0c0_2 : Int, H15.cell ⟨x4b, 0, none⟩ = some (Value.int .i64 r0c0_2) ∧ ∃ r0c1_2 : Int, H15.cell ⟨x4b, 1, none⟩ = some (Value.int .i64 r0c1_2) ∧ R (Value.tuple ⟨[(Value.agg ⟨[(Value.int .i64 r0c0_2), (Value.int .i64 r0c1_2)]⟩), (Value.int .i64 0)]⟩) H15))
theorem ref02_Pool_Lend_eq (p0b : Nat) (b1a : Option Addr) (b1n : Nat) (b1c : Nat) (H : Heap) (R : Value → Heap → Prop) : ref02_Pool_Lend_p p0b b1a b1n b1c H R = CodeW Try.prog plan_ref02_Pool_Lend (bodyOf Try.f23) (env0 [(Value.pointer (some ⟨p0b, 0, none⟩)), (Value.slice b1a b1n b1c)]) H (RetW Try.prog Try.f23.results.toList R) := by kernel_rfl
theorem ref02_Pool_Lend_sh (p0b : Nat) (b1a : Option Addr) (b1n : Nat) (b1c : Nat) {H : Heap} {R : Value → Heap → Prop} (h : ref02_Pool_Lend_p p0b b1a b1n b1c H R) : FnW Try.prog f_ref02_Pool_Lend ⟨[(Value.pointer (some ⟨p0b, 0, none⟩)), (Value.slice b1a b1n b1c)]⟩ H R := FnW.of_code k_ref02_Pool_Lend rfl (Eq.mp (ref02_Pool_Lend_eq p0b b1a b1n b1c H R) h)
def plan_pool_Pool_Free : Plan := ⟨[], []⟩
theorem k_pool_Pool_Free : Known Try.prog f_pool_Pool_Free Try.f24 plan_pool_Pool_Free (bodyOf Try.f24) := ⟨Try.func24, by kernel_rfl, by kernel_rfl, by kernel_rfl, by kernel_rfl, by kernel_rfl⟩
def pool_Pool_Free_p (p0b : Nat) (H : Heap) (R : Value → Heap → Prop) : Prop :=
 FnW Try.prog f_pool_Pool_is ⟨[(Value.pointer (some ⟨p0b, 0, none⟩))]⟩ H fun x4v H1 =>
 ∃ x4 : Bool, x4v = (Value.bool x4) ∧
 IfB (!x4)
 (R (Value.int .i64 0) H1)
 (∃ x9 : Int, H1.cell ⟨p0b, 258, none⟩ = some (Value.int .i64 x9) ∧
 R (Value.int .i64 x9) H1)
theorem pool_Pool_Free_eq (p0b : Nat) (H : Heap) (R : Value → Heap → Prop) : pool_Pool_Free_p p0b H R = CodeW Try.prog plan_pool_Pool_Free (bodyOf Try.f24) (env0 [(Value.pointer (some ⟨p0b, 0, none⟩))]) H (RetW Try.prog Try.f24.results.toList R) := by kernel_rfl
theorem pool_Pool_Free_sh (p0b : Nat) {H : Heap} {R : Value → Heap → Prop} (h : pool_Pool_Free_p p0b H R) : FnW Try.prog f_pool_Pool_Free ⟨[(Value.pointer (some ⟨p0b, 0, none⟩))]⟩ H R := FnW.of_code k_pool_Pool_Free rfl (Eq.mp (pool_Pool_Free_eq p0b H R) h)
def pool_Pool_Free_nil_p (H : Heap) (R : Value → Heap → Prop) : Prop :=
 FnW Try.prog f_pool_Pool_is ⟨[(Value.pointer none)]⟩ H fun x4v H1 =>
 ∃ x4 : Bool, x4v = (Value.bool x4) ∧
 IfB (!x4)
 (R (Value.int .i64 0) H1)
 (False)
theorem pool_Pool_Free_nil_eq  (H : Heap) (R : Value → Heap → Prop) : pool_Pool_Free_nil_p  H R = CodeW Try.prog plan_pool_Pool_Free (bodyOf Try.f24) (env0 [(Value.pointer none)]) H (RetW Try.prog Try.f24.results.toList R) := by kernel_rfl
theorem pool_Pool_Free_nil_sh  {H : Heap} {R : Value → Heap → Prop} (h : pool_Pool_Free_nil_p  H R) : FnW Try.prog f_pool_Pool_Free ⟨[(Value.pointer none)]⟩ H R := FnW.of_code k_pool_Pool_Free rfl (Eq.mp (pool_Pool_Free_nil_eq  H R) h)
def plan_pool_Pool_Lent : Plan := ⟨[], [(3, [3, 8], [.slice, .int .i64], [0, 7])]⟩
theorem k_pool_Pool_Lent : Known Try.prog f_pool_Pool_Lent Try.f25 plan_pool_Pool_Lent (bodyOf Try.f25) := ⟨Try.func25, by kernel_rfl, by kernel_rfl, by kernel_rfl, by kernel_rfl, by kernel_rfl⟩
def pool_Pool_Lent_j0 (p0b : Nat) (x7 : Int) (x8 : Int) (next3 : ((Option Addr × Nat × Nat) × Int × Unit) → Heap → Prop) (l3a_1 : Option Addr) (l3n_1 : Nat) (l3c_1 : Nat) (H5 : Heap) (R : Value → Heap → Prop) : Prop :=
 next3 ((l3a_1, l3n_1, l3c_1), ((IntKind.wrap .i64 (x8 + 1)), ())) H5
def pool_Pool_Lent_l3 (p0b : Nat) (x7 : Int) (l3a : Option Addr) (l3n : Nat) (l3c : Nat) (x8 : Int) (H2 : Heap) (next3 : ((Option Addr × Nat × Nat) × Int × Unit) → Heap → Prop) (R : Value → Heap → Prop) : Prop :=
 IfB (decide ((x8 : Int) < x7))
 (∃ (x14a : Option Addr) (x14n x14c : Nat), H2.cell ⟨p0b, 0, none⟩ = some (Value.slice x14a x14n x14c) ∧
 NilP x14a fun x16q =>
 InB x8 x14n fun x16i =>
 elemAt x16q x16i 1516 fun x16p =>
 ∃ x18 : Int, H2.cell x16p = some (Value.int .i64 x18) ∧
 IfB (decide ((x18 : Int) > 0))
 (NewW H2 (Obj.cells ⟨[(Value.int .i64 x8), (Value.int .i64 x18)]⟩ T_pool_Handle) fun x25b H3 =>
 AppW Try.prog #[T_sl_pool_Handle, T_sl_pool_Handle] T_sl_pool_Handle [(Value.slice l3a l3n l3c), (Value.slice (some ⟨x25b, 0, none⟩) 1 1)] H3 fun x26v H4 =>
 ∃ (x26a : Option Addr) (x26n x26c : Nat), x26v = (Value.slice x26a x26n x26c) ∧
 pool_Pool_Lent_j0 p0b x7 x8 next3 x26a x26n x26c H4 R)
 (pool_Pool_Lent_j0 p0b x7 x8 next3 l3a l3n l3c H2 R))
 (R (Value.slice l3a l3n l3c) H2)
def pool_Pool_Lent_p (p0b : Nat) (H : Heap) (R : Value → Heap → Prop) : Prop :=
 FnW Try.prog f_pool_Pool_Size ⟨[(Value.pointer (some ⟨p0b, 0, none⟩))]⟩ H fun x7v H1 =>
 ∃ x7 : Int, x7v = (Value.int .i64 x7) ∧
 LoopI ((Option Addr × Nat × Nat) × Int × Unit) ((none, 0, 0), (0, ())) H1 fun x H next => ∀ _g : Env, pool_Pool_Lent_l3 p0b x7 x.1.1 x.1.2.1 x.1.2.2 x.2.1 H next R
theorem pool_Pool_Lent_eq (p0b : Nat) (H : Heap) (R : Value → Heap → Prop) : pool_Pool_Lent_p p0b H R = CodeW Try.prog plan_pool_Pool_Lent (bodyOf Try.f25) (env0 [(Value.pointer (some ⟨p0b, 0, none⟩))]) H (RetW Try.prog Try.f25.results.toList R) := by kernel_rfl
theorem pool_Pool_Lent_sh (p0b : Nat) {H : Heap} {R : Value → Heap → Prop} (h : pool_Pool_Lent_p p0b H R) : FnW Try.prog f_pool_Pool_Lent ⟨[(Value.pointer (some ⟨p0b, 0, none⟩))]⟩ H R := FnW.of_code k_pool_Pool_Lent rfl (Eq.mp (pool_Pool_Lent_eq p0b H R) h)
def pool_Pool_Lent_nil_l3 (x7 : Int) (l3a : Option Addr) (l3n : Nat) (l3c : Nat) (x8 : Int) (H2 : Heap) (next3 : ((Option Addr × Nat × Nat) × Int × Unit) → Heap → Prop) (R : Value → Heap → Prop) : Prop :=
 IfB (decide ((x8 : Int) < x7))
 (False)
 (R (Value.slice l3a l3n l3c) H2)
def pool_Pool_Lent_nil_p (H : Heap) (R : Value → Heap → Prop) : Prop :=
 FnW Try.prog f_pool_Pool_Size ⟨[(Value.pointer none)]⟩ H fun x7v H1 =>
 ∃ x7 : Int, x7v = (Value.int .i64 x7) ∧
 LoopI ((Option Addr × Nat × Nat) × Int × Unit) ((none, 0, 0), (0, ())) H1 fun x H next => ∀ _g : Env, pool_Pool_Lent_nil_l3 x7 x.1.1 x.1.2.1 x.1.2.2 x.2.1 H next R
theorem pool_Pool_Lent_nil_eq  (H : Heap) (R : Value → Heap → Prop) : pool_Pool_Lent_nil_p  H R = CodeW Try.prog plan_pool_Pool_Lent (bodyOf Try.f25) (env0 [(Value.pointer none)]) H (RetW Try.prog Try.f25.results.toList R) := by kernel_rfl
theorem pool_Pool_Lent_nil_sh  {H : Heap} {R : Value → Heap → Prop} (h : pool_Pool_Lent_nil_p  H R) : FnW Try.prog f_pool_Pool_Lent ⟨[(Value.pointer none)]⟩ H R := FnW.of_code k_pool_Pool_Lent rfl (Eq.mp (pool_Pool_Lent_nil_eq  H R) h)
def plan_pool_Pool_Size : Plan := ⟨[], []⟩
theorem k_pool_Pool_Size : Known Try.prog f_pool_Pool_Size Try.f26 plan_pool_Pool_Size (bodyOf Try.f26) := ⟨Try.func26, by kernel_rfl, by kernel_rfl, by kernel_rfl, by kernel_rfl, by kernel_rfl⟩
def pool_Pool_Size_p (p0b : Nat) (H : Heap) (R : Value → Heap → Prop) : Prop :=
 FnW Try.prog f_pool_Pool_is ⟨[(Value.pointer (some ⟨p0b, 0, none⟩))]⟩ H fun x4v H1 =>
 ∃ x4 : Bool, x4v = (Value.bool x4) ∧
 IfB (!x4)
 (R (Value.int .i64 0) H1)
 (∃ (x9a : Option Addr) (x9n x9c : Nat), H1.cell ⟨p0b, 0, none⟩ = some (Value.slice x9a x9n x9c) ∧
 R (Value.int .i64 (x9n : Int)) H1)
theorem pool_Pool_Size_eq (p0b : Nat) (H : Heap) (R : Value → Heap → Prop) : pool_Pool_Size_p p0b H R = CodeW Try.prog plan_pool_Pool_Size (bodyOf Try.f26) (env0 [(Value.pointer (some ⟨p0b, 0, none⟩))]) H (RetW Try.prog Try.f26.results.toList R) := by kernel_rfl
theorem pool_Pool_Size_sh (p0b : Nat) {H : Heap} {R : Value → Heap → Prop} (h : pool_Pool_Size_p p0b H R) : FnW Try.prog f_pool_Pool_Size ⟨[(Value.pointer (some ⟨p0b, 0, none⟩))]⟩ H R := FnW.of_code k_pool_Pool_Size rfl (Eq.mp (pool_Pool_Size_eq p0b H R) h)
def pool_Pool_Size_nil_p (H : Heap) (R : Value → Heap → Prop) : Prop :=
 FnW Try.prog f_pool_Pool_is ⟨[(Value.pointer none)]⟩ H fun x4v H1 =>
 ∃ x4 : Bool, x4v = (Value.bool x4) ∧
 IfB (!x4)
 (R (Value.int .i64 0) H1)
 (False)
theorem pool_Pool_Size_nil_eq  (H : Heap) (R : Value → Heap → Prop) : pool_Pool_Size_nil_p  H R = CodeW Try.prog plan_pool_Pool_Size (bodyOf Try.f26) (env0 [(Value.pointer none)]) H (RetW Try.prog Try.f26.results.toList R) := by kernel_rfl
theorem pool_Pool_Size_nil_sh  {H : Heap} {R : Value → Heap → Prop} (h : pool_Pool_Size_nil_p  H R) : FnW Try.prog f_pool_Pool_Size ⟨[(Value.pointer none)]⟩ H R := FnW.of_code k_pool_Pool_Size rfl (Eq.mp (pool_Pool_Size_nil_eq  H R) h)
def plan_law02_do : Plan := ⟨[(10, [0, 1, 2, 5, 6, 7, 3, 4, 8, 9, 10], [57, 62]), (12, [0, 1, 3, 4, 2, 5, 6, 7], [72])], []⟩
theorem k_law02_do : Known Try.prog f_law02_do Try.f27 plan_law02_do (bodyOf Try.f27) := ⟨Try.func27, by kernel_rfl, by kernel_rfl, by kernel_rfl, by kernel_rfl, by kernel_rfl⟩
def law02_do_p (x0b : Nat) (y1b : Nat) (a2c0 : Int) (a2c1 : Int) (a2c2 : Bool) (a2c3 : Int) (a2c4 : Int) (a2c5a : Option Addr) (a2c5n : Nat) (a2c5c : Nat) (H : Heap) (R : Value → Heap → Prop) : Prop :=
 NewW H (Obj.cells ⟨[(Value.int .i64 a2c0), (Value.int .i64 a2c1), (Value.bool a2c2), (Value.int .i64 a2c3), (Value.int .i64 a2c4), (Value.slice a2c5a a2c5n a2c5c)]⟩ T_law02_Act) fun a5b H1 =>
 ∃ (x19a : Option Addr) (x19n x19c : Nat), H1.cell ⟨a5b, 5, none⟩ = some (Value.slice x19a x19n x19c) ∧
 FnW Try.prog f_law02_bytes ⟨[(Value.slice x19a x19n x19c)]⟩ H1 fun x20v H2 =>
 ∃ (x20a : Option Addr) (x20n x20c : Nat), x20v = (Value.slice x20a x20n x20c) ∧
 ∃ x22c0 : Int, H2.cell ⟨a5b, 0, none⟩ = some (Value.int .i64 x22c0) ∧ ∃ x22c1 : Int, H2.cell ⟨a5b, 1, none⟩ = some (Value.int .i64 x22c1) ∧ ∃ x22c2 : Bool, H2.cell ⟨a5b, 2, none⟩ = some (Value.bool x22c2) ∧ ∃ x22c3 : Int, H2.cell ⟨a5b, 3, none⟩ = some (Value.int .i64 x22c3) ∧ ∃ x22c4 : Int, H2.cell ⟨a5b, 4, none⟩ = some (Value.int .i64 x22c4) ∧ ∃ (x22c5a : Option Addr) (x22c5n x22c5c : Nat), H2.cell ⟨a5b, 5, none⟩ = some (Value.slice x22c5a x22c5n x22c5c) ∧ FnW Try.prog f_law02_handle ⟨[(Value.pointer (some ⟨y1b, 0, none⟩)), (Value.agg ⟨[(Value.int .i64 x22c0), (Value.int .i64 x22c1), (Value.bool x22c2), (Value.int .i64 x22c3), (Value.int .i64 x22c4), (Value.slice x22c5a x22c5n x22c5c)]⟩)]⟩ H2 fun x23v H3 =>
 ∃ x23c0 : Int, ∃ x23c1 : Int, x23v = (Value.agg ⟨[(Value.int .i64 x23c0), (Value.int .i64 x23c1)]⟩) ∧
 NewW H3 (Obj.cells ⟨[(Value.int .i64 0), (Value.int .i64 0)]⟩ T_pool_Handle) fun h8b H4 =>
 StCell H4 ⟨h8b, 0, none⟩ (Value.int .i64 x23c0) fun H5 =>
 StCell H5 ⟨h8b, 1, none⟩ (Value.int .i64 x23c1) fun H6 =>
 ∃ x25 : Int, H6.cell ⟨h8b, 0, none⟩ = some (Value.int .i64 x25) ∧
 ∃ x27 : Int, H6.cell ⟨h8b, 1, none⟩ = some (Value.int .i64 x27) ∧
 NewW H6 (Obj.cells ⟨[(Value.int .i64 0), (Value.int .i64 0)]⟩ T_ref02_Handle) fun k9b H7 =>
 StCell H7 ⟨k9b, 0, none⟩ (Value.int .i64 x25) fun H8 =>
 StCell H8 ⟨k9b, 1, none⟩ (Value.int .i64 x27) fun H9 =>
 ∃ x30 : Int, H9.cell ⟨a5b, 0, none⟩ = some (Value.int .i64 x30) ∧
 FnW Try.prog f_base_Among ⟨[(Value.int .i64 x30), (Value.int .i64 5)]⟩ H9 fun x31v H10 =>
 ∃ x31 : Int, x31v = (Value.int .i64 x31) ∧
 IfB ((x31 : Int) == 2)
 (∃ x36c0 : Int, H10.cell ⟨h8b, 0, none⟩ = some (Value.int .i64 x36c0) ∧ ∃ x36c1 : Int, H10.cell ⟨h8b, 1, none⟩ = some (Value.int .i64 x36c1) ∧ FnW Try.prog f_pool_Pool_Read ⟨[(Value.pointer (some ⟨x0b, 0, none⟩)), (Value.agg ⟨[(Value.int .i64 x36c0), (Value.int .i64 x36c1)]⟩)]⟩ H10 fun x37v H11 =>
 ∃ (x37r0a : Option Addr) (x37r0n x37r0c : Nat), ∃ x37r1 : Int, x37v = (Value.tuple ⟨[(Value.slice x37r0a x37r0n x37r0c), (Value.int .i64 x37r1)]⟩) ∧
 ∃ x42c0 : Int, H11.cell ⟨k9b, 0, none⟩ = some (Value.int .i64 x42c0) ∧ ∃ x42c1 : Int, H11.cell ⟨k9b, 1, none⟩ = some (Value.int .i64 x42c1) ∧ FnW Try.prog f_ref02_Pool_Read ⟨[(Value.pointer (some ⟨y1b, 0, none⟩)), (Value.agg ⟨[(Value.int .i64 x42c0), (Value.int .i64 x42c1)]⟩)]⟩ H11 fun x43v H12 =>
 ∃ (x43r0a : Option Addr) (x43r0n x43r0c : Nat), ∃ x43r1 : Int, x43v = (Value.tuple ⟨[(Value.slice x43r0a x43r0n x43r0c), (Value.int .i64 x43r1)]⟩) ∧
 FnW Try.prog f_base_SameBytes ⟨[(Value.slice x37r0a x37r0n x37r0c), (Value.slice x43r0a x43r0n x43r0c)]⟩ H12 fun x48v H13 =>
 ∃ x48 : Bool, x48v = (Value.bool x48) ∧
 IfB x48
 (R (Value.bool ((x37r1 : Int) == x43r1)) H13)
 (R (Value.bool false) H13))
 (IfB ((x31 : Int) == 3)
 (∃ bs : List Nat, (∀ b ∈ bs, ∃ o, H10 b = some o) ∧
 h8b ∈ bs ∧ ∃ x57c0 : Int, H10.cell ⟨h8b, 0, none⟩ = some (Value.int .i64 x57c0) ∧ ∃ x57c1 : Int, H10.cell ⟨h8b, 1, none⟩ = some (Value.int .i64 x57c1) ∧ k9b ∈ bs ∧ ∃ x62c0 : Int, H10.cell ⟨k9b, 0, none⟩ = some (Value.int .i64 x62c0) ∧ ∃ x62c1 : Int, H10.cell ⟨k9b, 1, none⟩ = some (Value.int .i64 x62c1) ∧ FnW Try.prog f_base_Bytes ⟨[(Value.slice x20a x20n x20c)]⟩ H10 fun x59v H14 =>
 ∃ (x59a : Option Addr) (x59n x59c : Nat), x59v = (Value.slice x59a x59n x59c) ∧
 KeptIn bs H10 H14 ∧ FnW Try.prog f_pool_Pool_Write ⟨[(Value.pointer (some ⟨x0b, 0, none⟩)), (Value.agg ⟨[(Value.int .i64 x57c0), (Value.int .i64 x57c1)]⟩), (Value.slice x59a x59n x59c)]⟩ H14 fun x60v H15 =>
 ∃ x60 : Int, x60v = (Value.int .i64 x60) ∧
 KeptIn bs H10 H15 ∧ FnW Try.prog f_ref02_Pool_Write ⟨[(Value.pointer (some ⟨y1b, 0, none⟩)), (Value.agg ⟨[(Value.int .i64 x62c0), (Value.int .i64 x62c1)]⟩), (Value.slice x20a x20n x20c)]⟩ H15 fun x64v H16 =>
 ∃ x64 : Int, x64v = (Value.int .i64 x64) ∧
 KeptIn bs H10 H16 ∧ R (Value.bool ((x60 : Int) == x64)) H16)
 (IfB ((x31 : Int) == 4)
 (∃ bs : List Nat, (∀ b ∈ bs, ∃ o, H10 b = some o) ∧
 ∃ x69c0 : Int, H10.cell ⟨h8b, 0, none⟩ = some (Value.int .i64 x69c0) ∧ ∃ x69c1 : Int, H10.cell ⟨h8b, 1, none⟩ = some (Value.int .i64 x69c1) ∧ k9b ∈ bs ∧ ∃ x72c0 : Int, H10.cell ⟨k9b, 0, none⟩ = some (Value.int .i64 x72c0) ∧ ∃ x72c1 : Int, H10.cell ⟨k9b, 1, none⟩ = some (Value.int .i64 x72c1) ∧ FnW Try.prog f_pool_Pool_Give ⟨[(Value.pointer (some ⟨x0b, 0, none⟩)), (Value.agg ⟨[(Value.int .i64 x69c0), (Value.int .i64 x69c1)]⟩)]⟩ H10 fun x70v H17 =>
 ∃ x70 : Int, x70v = (Value.int .i64 x70) ∧
 KeptIn bs H10 H17 ∧ FnW Try.prog f_ref02_Pool_Give ⟨[(Value.pointer (some ⟨y1b, 0, none⟩)), (Value.agg ⟨[(Value.int .i64 x72c0), (Value.int .i64 x72c1)]⟩)]⟩ H17 fun x73v H18 =>
 ∃ x73 : Int, x73v = (Value.int .i64 x73) ∧
 KeptIn bs H10 H18 ∧ R (Value.bool ((x70 : Int) == x73)) H18)
 (FnW Try.prog f_base_Bytes ⟨[(Value.slice x20a x20n x20c)]⟩ H10 fun x78v H19 =>
 ∃ (x78a : Option Addr) (x78n x78c : Nat), x78v = (Value.slice x78a x78n x78c) ∧
 FnW Try.prog f_pool_Pool_Lend ⟨[(Value.pointer (some ⟨x0b, 0, none⟩)), (Value.slice x78a x78n x78c)]⟩ H19 fun x79v H20 =>
 ∃ x79r0c0 : Int, ∃ x79r0c1 : Int, ∃ x79r1 : Int, x79v = (Value.tuple ⟨[(Value.agg ⟨[(Value.int .i64 x79r0c0), (Value.int .i64 x79r0c1)]⟩), (Value.int .i64 x79r1)]⟩) ∧
 NewW H20 (Obj.cells ⟨[(Value.int .i64 0), (Value.int .i64 0)]⟩ T_pool_Handle) fun p14b H21 =>
 StCell H21 ⟨p14b, 0, none⟩ (Value.int .i64 x79r0c0) fun H22 =>
 StCell H22 ⟨p14b, 1, none⟩ (Value.int .i64 x79r0c1) fun H23 =>
 FnW Try.prog f_ref02_Pool_Lend ⟨[(Value.pointer (some ⟨y1b, 0, none⟩)), (Value.slice x20a x20n x20c)]⟩ H23 fun x85v H24 =>
 ∃ x85r0c0 : Int, ∃ x85r0c1 : Int, ∃ x85r1 : Int, x85v = (Value.tuple ⟨[(Value.agg ⟨[(Value.int .i64 x85r0c0), (Value.int .i64 x85r0c1)]⟩), (Value.int .i64 x85r1)]⟩) ∧
 NewW H24 (Obj.cells ⟨[(Value.int .i64 0), (Value.int .i64 0)]⟩ T_ref02_Handle) fun q16b H25 =>
 StCell H25 ⟨q16b, 0, none⟩ (Value.int .i64 x85r0c0) fun H26 =>
 StCell H26 ⟨q16b, 1, none⟩ (Value.int .i64 x85r0c1) fun H27 =>
 ∃ x89 : Int, H27.cell ⟨p14b, 0, none⟩ = some (Value.int .i64 x89) ∧
 ∃ x91 : Int, H27.cell ⟨q16b, 0, none⟩ = some (Value.int .i64 x91) ∧
 IfB ((x89 : Int) == x91)
 (∃ x95 : Int, H27.cell ⟨p14b, 1, none⟩ = some (Value.int .i64 x95) ∧
 ∃ x97 : Int, H27.cell ⟨q16b, 1, none⟩ = some (Value.int .i64 x97) ∧
 IfB ((x95 : Int) == x97)
 (R (Value.bool ((x79r1 : Int) == x85r1)) H27)
 (R (Value.bool false) H27))
 (R (Value.bool false) H27))))
theorem law02_do_eq (x0b : Nat) (y1b : Nat) (a2c0 : Int) (a2c1 : Int) (a2c2 : Bool) (a2c3 : Int) (a2c4 : Int) (a2c5a : Option Addr) (a2c5n : Nat) (a2c5c : Nat) (H : Heap) (R : Value → Heap → Prop) : law02_do_p x0b y1b a2c0 a2c1 a2c2 a2c3 a2c4 a2c5a a2c5n a2c5c H R = CodeW Try.prog plan_law02_do (bodyOf Try.f27) (env0 [(Value.pointer (some ⟨x0b, 0, none⟩)), (Value.pointer (some ⟨y1b, 0, none⟩)), (Value.agg ⟨[(Value.int .i64 a2c0), (Value.int .i64 a2c1), (Value.bool a2c2), (Value.int .i64 a2c3), (Value.int .i64 a2c4), (Value.slice a2c5a a2c5n a2c5c)]⟩)]) H (RetW Try.prog Try.f27.results.toList R) := by kernel_rfl
theorem law02_do_sh (x0b : Nat) (y1b : Nat) (a2c0 : Int) (a2c1 : Int) (a2c2 : Bool) (a2c3 : Int) (a2c4 : Int) (a2c5a : Option Addr) (a2c5n : Nat) (a2c5c : Nat) {H : Heap} {R : Value → Heap → Prop} (h : law02_do_p x0b y1b a2c0 a2c1 a2c2 a2c3 a2c4 a2c5a a2c5n a2c5c H R) : FnW Try.prog f_law02_do ⟨[(Value.pointer (some ⟨x0b, 0, none⟩)), (Value.pointer (some ⟨y1b, 0, none⟩)), (Value.agg ⟨[(Value.int .i64 a2c0), (Value.int .i64 a2c1), (Value.bool a2c2), (Value.int .i64 a2c3), (Value.int .i64 a2c4), (Value.slice a2c5a a2c5n a2c5c)]⟩)]⟩ H R := FnW.of_code k_law02_do rfl (Eq.mp (law02_do_eq x0b y1b a2c0 a2c1 a2c2 a2c3 a2c4 a2c5a a2c5n a2c5c H R) h)
def plan_law02_same : Plan := ⟨[(2, [0, 2, 3, 4, 5, 6, 1, 7, 8, 9, 11, 12, 13, 14, 15, 10, 16, 17, 18, 19, 20, 21, 22, 23, 24], [19, 28])], [(5, [7], [.int .i64], [0, 1, 5, 6])]⟩
theorem k_law02_same : Known Try.prog f_law02_same Try.f28 plan_law02_same (bodyOf Try.f28) := ⟨Try.func28, by kernel_rfl, by kernel_rfl, by kernel_rfl, by kernel_rfl, by kernel_rfl⟩
def law02_same_j1 (x0b : Nat) (y1b : Nat) (x11a : Option Addr) (x11n : Nat) (x11c : Nat) (x13a : Option Addr) (x13n : Nat) (x13c : Nat) (i7 : Int) (next5 : (Int × Unit) → Heap → Prop) (x98 : Bool) (H7 : Heap) (R : Value → Heap → Prop) : Prop :=
 IfB x98
 (R (Value.bool false) H7)
 (next5 ((IntKind.wrap .i64 (i7 + 1)), ()) H7)
def law02_same_l5 (x0b : Nat) (y1b : Nat) (x11a : Option Addr) (x11n : Nat) (x11c : Nat) (x13a : Option Addr) (x13n : Nat) (x13c : Nat) (i7 : Int) (H5 : Heap) (next5 : (Int × Unit) → Heap → Prop) (R : Value → Heap → Prop) : Prop :=
 IfB (decide ((i7 : Int) < (x13n : Int)))
 (NilP x11a fun x49q =>
 InB i7 x11n fun x49i =>
 elemAt x49q x49i 2 fun x49p =>
 ∃ x50c0 : Int, H5.cell x49p = some (Value.int .i64 x50c0) ∧ ∃ x50c1 : Int, H5.cell ⟨x49p.block, x49p.off + 1, none⟩ = some (Value.int .i64 x50c1) ∧ FnW Try.prog f_pool_Pool_Read ⟨[(Value.pointer (some ⟨x0b, 0, none⟩)), (Value.agg ⟨[(Value.int .i64 x50c0), (Value.int .i64 x50c1)]⟩)]⟩ H5 fun x51v H6 =>
 ∃ (x51r0a : Option Addr) (x51r0n x51r0c : Nat), ∃ x51r1 : Int, x51v = (Value.tuple ⟨[(Value.slice x51r0a x51r0n x51r0c), (Value.int .i64 x51r1)]⟩) ∧
 NilP x11a fun x56q =>
 InB i7 x11n fun x56i =>
 elemAt x56q x56i 2 fun x56p =>
 ∃ x58 : Int, H6.cell x56p = some (Value.int .i64 x58) ∧
 NilP x13a fun x61q =>
 InB i7 x13n fun x61i =>
 elemAt x61q x61i 2 fun x61p =>
 ∃ x63 : Int, H6.cell x61p = some (Value.int .i64 x63) ∧
 IfB ((x58 : Int) != x63)
 (law02_same_j1 x0b y1b x11a x11n x11c x13a x13n x13c i7 next5 true H6 R)
 (NilP x11a fun x68q =>
 InB i7 x11n fun x68i =>
 elemAt x68q x68i 2 fun x68p =>
 ∃ x70 : Int, H6.cell ⟨x68p.block, x68p.off + 1, none⟩ = some (Value.int .i64 x70) ∧
 NilP x13a fun x73q =>
 InB i7 x13n fun x73i =>
 elemAt x73q x73i 2 fun x73p =>
 ∃ x75 : Int, H6.cell ⟨x73p.block, x73p.off + 1, none⟩ = some (Value.int .i64 x75) ∧
 IfB ((x70 : Int) != x75)
 (law02_same_j1 x0b y1b x11a x11n x11c x13a x13n x13c i7 next5 true H6 R)
 (IfB ((x51r1 : Int) != 0)
 (law02_same_j1 x0b y1b x11a x11n x11c x13a x13n x13c i7 next5 true H6 R)
 (∃ (x87a : Option Addr) (x87n x87c : Nat), H6.cell ⟨y1b, 0, none⟩ = some (Value.slice x87a x87n x87c) ∧
 NilP x13a fun x90q =>
 InB i7 x13n fun x90i =>
 elemAt x90q x90i 2 fun x90p =>
 ∃ x92 : Int, H6.cell x90p = some (Value.int .i64 x92) ∧
 NilP x87a fun x93q =>
 InB x92 x87n fun x93i =>
 elemAt x93q x93i 2 fun x93p =>
 ∃ (x95a : Option Addr) (x95n x95c : Nat), H6.cell ⟨x93p.block, x93p.off + 1, none⟩ = some (Value.slice x95a x95n x95c) ∧
 FnW Try.prog f_base_SameBytes ⟨[(Value.slice x51r0a x51r0n x51r0c), (Value.slice x95a x95n x95c)]⟩ H6 fun x96v H8 =>
 ∃ x96 : Bool, x96v = (Value.bool x96) ∧
 law02_same_j1 x0b y1b x11a x11n x11c x13a x13n x13c i7 next5 (!x96) H8 R))))
 (R (Value.bool true) H5)
def law02_same_j0 (x0b : Nat) (y1b : Nat) (x11a : Option Addr) (x11n : Nat) (x11c : Nat) (x13a : Option Addr) (x13n : Nat) (x13c : Nat) (x38 : Bool) (H4 : Heap) (R : Value → Heap → Prop) : Prop :=
 IfB x38
 (R (Value.bool false) H4)
 (LoopI (Int × Unit) (0, ()) H4 fun x H next => ∀ _g : Env, law02_same_l5 x0b y1b x11a x11n x11c x13a x13n x13c x.1 H next R)
def law02_same_p (x0b : Nat) (y1b : Nat) (H : Heap) (R : Value → Heap → Prop) : Prop :=
 FnW Try.prog f_pool_Pool_Lent ⟨[(Value.pointer (some ⟨x0b, 0, none⟩))]⟩ H fun x11v H1 =>
 ∃ (x11a : Option Addr) (x11n x11c : Nat), x11v = (Value.slice x11a x11n x11c) ∧
 FnW Try.prog f_ref02_Pool_Lent ⟨[(Value.pointer (some ⟨y1b, 0, none⟩))]⟩ H1 fun x13v H2 =>
 ∃ (x13a : Option Addr) (x13n x13c : Nat), x13v = (Value.slice x13a x13n x13c) ∧
 ∃ bs : List Nat, (∀ b ∈ bs, ∃ o, H2 b = some o) ∧
 y1b ∈ bs ∧ ∃ (x19a : Option Addr) (x19n x19c : Nat), H2.cell ⟨y1b, 1, none⟩ = some (Value.slice x19a x19n x19c) ∧
 FnW Try.prog f_pool_Pool_Free ⟨[(Value.pointer (some ⟨x0b, 0, none⟩))]⟩ H2 fun x15v H3 =>
 ∃ x15 : Int, x15v = (Value.int .i64 x15) ∧
 KeptIn bs H2 H3 ∧ IfB ((x15 : Int) != (x19n : Int))
 (law02_same_j0 x0b y1b x11a x11n x11c x13a x13n x13c true H3 R)
 (y1b ∈ bs ∧ ∃ (x28a : Option Addr) (x28n x28c : Nat), H2.cell ⟨y1b, 0, none⟩ = some (Value.slice x28a x28n x28c) ∧
 FnW Try.prog f_pool_Pool_Size ⟨[(Value.pointer (some ⟨x0b, 0, none⟩))]⟩ H3 fun x24v H9 =>
 ∃ x24 : Int, x24v = (Value.int .i64 x24) ∧
 KeptIn bs H2 H9 ∧ IfB ((x24 : Int) != (x28n : Int))
 (law02_same_j0 x0b y1b x11a x11n x11c x13a x13n x13c true H9 R)
 (law02_same_j0 x0b y1b x11a x11n x11c x13a x13n x13c (((x11n : Int) : Int) != (x13n : Int)) H9 R))
theorem law02_same_eq (x0b : Nat) (y1b : Nat) (H : Heap) (R : Value → Heap → Prop) : law02_same_p x0b y1b H R = CodeW Try.prog plan_law02_same (bodyOf Try.f28) (env0 [(Value.pointer (some ⟨x0b, 0, none⟩)), (Value.pointer (some ⟨y1b, 0, none⟩))]) H (RetW Try.prog Try.f28.results.toList R) := by kernel_rfl
theorem law02_same_sh (x0b : Nat) (y1b : Nat) {H : Heap} {R : Value → Heap → Prop} (h : law02_same_p x0b y1b H R) : FnW Try.prog f_law02_same ⟨[(Value.pointer (some ⟨x0b, 0, none⟩)), (Value.pointer (some ⟨y1b, 0, none⟩))]⟩ H R := FnW.of_code k_law02_same rfl (Eq.mp (law02_same_eq x0b y1b H R) h)
def plan_law03_works : Plan := ⟨[], []⟩
theorem k_law03_works : Known Try.prog f_law03_works Try.f29 plan_law03_works (bodyOf Try.f29) := ⟨Try.func29, by kernel_rfl, by kernel_rfl, by kernel_rfl, by kernel_rfl, by kernel_rfl⟩
def law03_works_j0 (x20r0 : Option Addr) (x24r0 : Option Addr) (x24r1 : Int) (x32 : Bool) (H3 : Heap) (R : Value → Heap → Prop) : Prop :=
 IfB x32
 (R (Value.bool false) H3)
 (FnW Try.prog f_pool_Pool_Lend ⟨[(Value.pointer x20r0), (Value.slice none 0 0)]⟩ H3 fun x35v H4 =>
 ∃ x35r0c0 : Int, ∃ x35r0c1 : Int, ∃ x35r1 : Int, x35v = (Value.tuple ⟨[(Value.agg ⟨[(Value.int .i64 x35r0c0), (Value.int .i64 x35r0c1)]⟩), (Value.int .i64 x35r1)]⟩) ∧
 NewW H4 (Obj.cells ⟨[(Value.int .i64 0), (Value.int .i64 0)]⟩ T_pool_Handle) fun a5b H5 =>
 StCell H5 ⟨a5b, 0, none⟩ (Value.int .i64 x35r0c0) fun H6 =>
 StCell H6 ⟨a5b, 1, none⟩ (Value.int .i64 x35r0c1) fun H7 =>
 FnW Try.prog f_pool_Pool_Lend ⟨[(Value.pointer x20r0), (Value.slice none 0 0)]⟩ H7 fun x40v H8 =>
 ∃ x40r0c0 : Int, ∃ x40r0c1 : Int, ∃ x40r1 : Int, x40v = (Value.tuple ⟨[(Value.agg ⟨[(Value.int .i64 x40r0c0), (Value.int .i64 x40r0c1)]⟩), (Value.int .i64 x40r1)]⟩) ∧
 NewW H8 (Obj.cells ⟨[(Value.int .i64 0), (Value.int .i64 0)]⟩ T_pool_Handle) fun b7b H9 =>
 StCell H9 ⟨b7b, 0, none⟩ (Value.int .i64 x40r0c0) fun H10 =>
 StCell H10 ⟨b7b, 1, none⟩ (Value.int .i64 x40r0c1) fun H11 =>
 FnW Try.prog f_pool_Pool_Lend ⟨[(Value.pointer x20r0), (Value.slice none 0 0)]⟩ H11 fun x45v H12 =>
 ∃ x45r0c0 : Int, ∃ x45r0c1 : Int, ∃ x45r1 : Int, x45v = (Value.tuple ⟨[(Value.agg ⟨[(Value.int .i64 x45r0c0), (Value.int .i64 x45r0c1)]⟩), (Value.int .i64 x45r1)]⟩) ∧
 NewW H12 (Obj.cells ⟨[(Value.int .i64 0), (Value.int .i64 0)]⟩ T_pool_Handle) fun c9b H13 =>
 StCell H13 ⟨c9b, 0, none⟩ (Value.int .i64 x45r0c0) fun H14 =>
 StCell H14 ⟨c9b, 1, none⟩ (Value.int .i64 x45r0c1) fun H15 =>
 ∃ x49c0 : Int, H15.cell ⟨a5b, 0, none⟩ = some (Value.int .i64 x49c0) ∧ ∃ x49c1 : Int, H15.cell ⟨a5b, 1, none⟩ = some (Value.int .i64 x49c1) ∧ FnW Try.prog f_ring_Ring_Post ⟨[(Value.pointer x24r0), (Value.agg ⟨[(Value.int .i64 x49c0), (Value.int .i64 x49c1)]⟩)]⟩ H15 fun x50v H16 =>
 ∃ x50 : Int, x50v = (Value.int .i64 x50) ∧
 ∃ x52c0 : Int, H16.cell ⟨b7b, 0, none⟩ = some (Value.int .i64 x52c0) ∧ ∃ x52c1 : Int, H16.cell ⟨b7b, 1, none⟩ = some (Value.int .i64 x52c1) ∧ FnW Try.prog f_ring_Ring_Post ⟨[(Value.pointer x24r0), (Value.agg ⟨[(Value.int .i64 x52c0), (Value.int .i64 x52c1)]⟩)]⟩ H16 fun x53v H17 =>
 ∃ x53 : Int, x53v = (Value.int .i64 x53) ∧
 ∃ x55c0 : Int, H17.cell ⟨c9b, 0, none⟩ = some (Value.int .i64 x55c0) ∧ ∃ x55c1 : Int, H17.cell ⟨c9b, 1, none⟩ = some (Value.int .i64 x55c1) ∧ FnW Try.prog f_ring_Ring_Post ⟨[(Value.pointer x24r0), (Value.agg ⟨[(Value.int .i64 x55c0), (Value.int .i64 x55c1)]⟩)]⟩ H17 fun x56v H18 =>
 ∃ x56 : Int, x56v = (Value.int .i64 x56) ∧
 NewW H18 (Obj.cells ⟨[(Value.int .u8 7)]⟩ T_uint8) fun x59b H19 =>
 FnW Try.prog f_ring_Ring_Fill ⟨[(Value.pointer x24r0), (Value.pointer x20r0), (Value.slice (some ⟨x59b, 0, none⟩) 1 1)]⟩ H19 fun x60v H20 =>
 ∃ x60 : Int, x60v = (Value.int .i64 x60) ∧
 ∃ x63c0 : Int, H20.cell ⟨a5b, 0, none⟩ = some (Value.int .i64 x63c0) ∧ ∃ x63c1 : Int, H20.cell ⟨a5b, 1, none⟩ = some (Value.int .i64 x63c1) ∧ FnW Try.prog f_pool_Pool_Read ⟨[(Value.pointer x20r0), (Value.agg ⟨[(Value.int .i64 x63c0), (Value.int .i64 x63c1)]⟩)]⟩ H20 fun x64v H21 =>
 ∃ (x64r0a : Option Addr) (x64r0n x64r0c : Nat), ∃ x64r1 : Int, x64v = (Value.tuple ⟨[(Value.slice x64r0a x64r0n x64r0c), (Value.int .i64 x64r1)]⟩) ∧
 FnW Try.prog f_ring_Ring_Reap ⟨[(Value.pointer x24r0)]⟩ H21 fun x69v H22 =>
 ∃ x69r0c0 : Int, ∃ x69r0c1 : Int, ∃ x69r1 : Int, x69v = (Value.tuple ⟨[(Value.agg ⟨[(Value.int .i64 x69r0c0), (Value.int .i64 x69r0c1)]⟩), (Value.int .i64 x69r1)]⟩) ∧
 NewW H22 (Obj.cells ⟨[(Value.int .i64 0), (Value.int .i64 0)]⟩ T_pool_Handle) fun h15b H23 =>
 StCell H23 ⟨h15b, 0, none⟩ (Value.int .i64 x69r0c0) fun H24 =>
 StCell H24 ⟨h15b, 1, none⟩ (Value.int .i64 x69r0c1) fun H25 =>
 FnW Try.prog f_ring_Ring_Reap ⟨[(Value.pointer x24r0)]⟩ H25 fun x74v H26 =>
 ∃ x74r0c0 : Int, ∃ x74r0c1 : Int, ∃ x74r1 : Int, x74v = (Value.tuple ⟨[(Value.agg ⟨[(Value.int .i64 x74r0c0), (Value.int .i64 x74r0c1)]⟩), (Value.int .i64 x74r1)]⟩) ∧
 NewW H26 (Obj.cells ⟨[(Value.int .i64 0), (Value.int .i64 0)]⟩ T_pool_Handle) fun x17b H27 =>
 StCell H27 ⟨x17b, 0, none⟩ (Value.int .i64 x74r0c0) fun H28 =>
 StCell H28 ⟨x17b, 1, none⟩ (Value.int .i64 x74r0c1) fun H29 =>
 IfB ((x24r1 : Int) == 0)
 (IfB ((x56 : Int) == 4)
 (IfB ((x60 : Int) == 0)
 (NewW H29 (Obj.cells ⟨[(Value.int .u8 7)]⟩ T_uint8) fun x89b H30 =>
 FnW Try.prog f_base_SameBytes ⟨[(Value.slice x64r0a x64r0n x64r0c), (Value.slice (some ⟨x89b, 0, none⟩) 1 1)]⟩ H30 fun x90v H31 =>
 ∃ x90 : Bool, x90v = (Value.bool x90) ∧
 IfB x90
 (∃ x93c0 : Int, H31.cell ⟨h15b, 0, none⟩ = some (Value.int .i64 x93c0) ∧ ∃ x93c1 : Int, H31.cell ⟨h15b, 1, none⟩ = some (Value.int .i64 x93c1) ∧ ∃ x94c0 : Int, H31.cell ⟨a5b, 0, none⟩ = some (Value.int .i64 x94c0) ∧ ∃ x94c1 : Int, H31.cell ⟨a5b, 1, none⟩ = some (Value.int .i64 x94c1) ∧ Program.eqGuardType Try.prog (Program.depth Try.prog) T_pool_Handle = false ∧
 IfB (((x93c0 : Int) == x94c0) && (((x93c1 : Int) == x94c1) && true))
 (IfB ((x69r1 : Int) == 0)
 (R (Value.bool ((x74r1 : Int) == 30)) H31)
 (R (Value.bool false) H31))
 (R (Value.bool false) H31))
 (R (Value.bool false) H31))
 (R (Value.bool false) H29))
 (R (Value.bool false) H29))
 (R (Value.bool false) H29))
def law03_works_p (H : Heap) (R : Value → Heap → Prop) : Prop :=
 FnW Try.prog f_pool_Make ⟨[(Value.int .i64 3)]⟩ H fun x20v H1 =>
 ∃ x20r0 : Option Addr, ∃ x20r1 : Int, x20v = (Value.tuple ⟨[(Value.pointer x20r0), (Value.int .i64 x20r1)]⟩) ∧
 FnW Try.prog f_ring_Make ⟨[(Value.int .i64 2)]⟩ H1 fun x24v H2 =>
 ∃ x24r0 : Option Addr, ∃ x24r1 : Int, x24v = (Value.tuple ⟨[(Value.pointer x24r0), (Value.int .i64 x24r1)]⟩) ∧
 IfB x20r0.isNone
 (law03_works_j0 x20r0 x24r0 x24r1 true H2 R)
 (law03_works_j0 x20r0 x24r0 x24r1 x24r0.isNone H2 R)
theorem law03_works_eq  (H : Heap) (R : Value → Heap → Prop) : law03_works_p  H R = CodeW Try.prog plan_law03_works (bodyOf Try.f29) (env0 []) H (RetW Try.prog Try.f29.results.toList R) := by kernel_rfl
theorem law03_works_sh  {H : Heap} {R : Value → Heap → Prop} (h : law03_works_p  H R) : FnW Try.prog f_law03_works ⟨[]⟩ H R := FnW.of_code k_law03_works rfl (Eq.mp (law03_works_eq  H R) h)
def plan_ring_Make : Plan := ⟨[], []⟩
theorem k_ring_Make : Known Try.prog f_ring_Make Try.f30 plan_ring_Make (bodyOf Try.f30) := ⟨Try.func30, by kernel_rfl, by kernel_rfl, by kernel_rfl, by kernel_rfl, by kernel_rfl⟩
def ring_Make_j0 (n0 : Int) (x10 : Bool) (H1 : Heap) (R : Value → Heap → Prop) : Prop :=
 IfB x10
 (R (Value.tuple ⟨[(Value.pointer none), (Value.int .i64 2)]⟩) H1)
 (NewW H1 (Obj.cells ⟨(setL zl_T_ring_Ring 192 [(Value.int .i64 n0)])⟩ T_ring_Ring) fun x13b H2 =>
 InB 0 3 fun x18i =>
 StCell H2 ⟨x13b, 196 + x18i * 1, none⟩ (Value.int .i64 n0) fun H3 =>
 R (Value.tuple ⟨[(Value.pointer (some ⟨x13b, 0, none⟩)), (Value.int .i64 0)]⟩) H3)
def ring_Make_p (n0 : Int) (H : Heap) (R : Value → Heap → Prop) : Prop :=
 IfB (decide ((n0 : Int) < 1))
 (ring_Make_j0 n0 true H R)
 (ring_Make_j0 n0 (decide ((n0 : Int) > 64)) H R)
theorem ring_Make_eq (n0 : Int) (H : Heap) (R : Value → Heap → Prop) : ring_Make_p n0 H R = CodeW Try.prog plan_ring_Make (bodyOf Try.f30) (env0 [(Value.int .i64 n0)]) H (RetW Try.prog Try.f30.results.toList R) := by kernel_rfl
theorem ring_Make_sh (n0 : Int) {H : Heap} {R : Value → Heap → Prop} (h : ring_Make_p n0 H R) : FnW Try.prog f_ring_Make ⟨[(Value.int .i64 n0)]⟩ H R := FnW.of_code k_ring_Make rfl (Eq.mp (ring_Make_eq n0 H R) h)
def plan_ring_Ring_Post : Plan := ⟨[], []⟩
theorem k_ring_Ring_Post : Known Try.prog f_ring_Ring_Post Try.f31 plan_ring_Ring_Post (bodyOf Try.f31) := ⟨Try.func31, by kernel_rfl, by kernel_rfl, by kernel_rfl, by kernel_rfl, by kernel_rfl⟩
def ring_Ring_Post_p (r0b : Nat) (h1c0 : Int) (h1c1 : Int) (H : Heap) (R : Value → Heap → Prop) : Prop :=
 NewW H (Obj.cells ⟨[(Value.int .i64 h1c0), (Value.int .i64 h1c1)]⟩ T_pool_Handle) fun h3b H1 =>
 FnW Try.prog f_ring_Ring_is ⟨[(Value.pointer (some ⟨r0b, 0, none⟩))]⟩ H1 fun x8v H2 =>
 ∃ x8 : Bool, x8v = (Value.bool x8) ∧
 IfB (!x8)
 (R (Value.int .i64 1) H2)
 (FnW Try.prog f_ring_Ring_turn ⟨[(Value.pointer (some ⟨r0b, 0, none⟩)), (Value.pointer (some ⟨r0b, 193, none⟩)), (Value.int .i64 0), (Value.int .i64 1)]⟩ H2 fun x15v H3 =>
 ∃ x15r0 : Option Addr, ∃ x15r1 : Bool, x15v = (Value.tuple ⟨[(Value.pointer x15r0), (Value.bool x15r1)]⟩) ∧
 IfB (!x15r1)
 (R (Value.int .i64 4) H3)
 (∃ x21c0 : Int, H3.cell ⟨h3b, 0, none⟩ = some (Value.int .i64 x21c0) ∧ ∃ x21c1 : Int, H3.cell ⟨h3b, 1, none⟩ = some (Value.int .i64 x21c1) ∧ NilP x15r0 fun x22p =>
 StCell H3 ⟨x22p.block, x22p.off + 1, none⟩ (Value.int .i64 x21c0) fun H4 =>
 StCell H4 ⟨x22p.block, x22p.off + 2, none⟩ (Value.int .i64 x21c1) fun H5 =>
 R (Value.int .i64 0) H5))
theorem ring_Ring_Post_eq (r0b : Nat) (h1c0 : Int) (h1c1 : Int) (H : Heap) (R : Value → Heap → Prop) : ring_Ring_Post_p r0b h1c0 h1c1 H R = CodeW Try.prog plan_ring_Ring_Post (bodyOf Try.f31) (env0 [(Value.pointer (some ⟨r0b, 0, none⟩)), (Value.agg ⟨[(Value.int .i64 h1c0), (Value.int .i64 h1c1)]⟩)]) H (RetW Try.prog Try.f31.results.toList R) := by kernel_rfl
theorem ring_Ring_Post_sh (r0b : Nat) (h1c0 : Int) (h1c1 : Int) {H : Heap} {R : Value → Heap → Prop} (h : ring_Ring_Post_p r0b h1c0 h1c1 H R) : FnW Try.prog f_ring_Ring_Post ⟨[(Value.pointer (some ⟨r0b, 0, none⟩)), (Value.agg ⟨[(Value.int .i64 h1c0), (Value.int .i64 h1c1)]⟩)]⟩ H R := FnW.of_code k_ring_Ring_Post rfl (Eq.mp (ring_Ring_Post_eq r0b h1c0 h1c1 H R) h)
def ring_Ring_Post_nil_p (h1c0 : Int) (h1c1 : Int) (H : Heap) (R : Value → Heap → Prop) : Prop :=
 NewW H (Obj.cells ⟨[(Value.int .i64 h1c0), (Value.int .i64 h1c1)]⟩ T_pool_Handle) fun h3b H1 =>
 FnW Try.prog f_ring_Ring_is ⟨[(Value.pointer none)]⟩ H1 fun x8v H2 =>
 ∃ x8 : Bool, x8v = (Value.bool x8) ∧
 IfB (!x8)
 (R (Value.int .i64 1) H2)
 (False)
theorem ring_Ring_Post_nil_eq (h1c0 : Int) (h1c1 : Int) (H : Heap) (R : Value → Heap → Prop) : ring_Ring_Post_nil_p h1c0 h1c1 H R = CodeW Try.prog plan_ring_Ring_Post (bodyOf Try.f31) (env0 [(Value.pointer none), (Value.agg ⟨[(Value.int .i64 h1c0), (Value.int .i64 h1c1)]⟩)]) H (RetW Try.prog Try.f31.results.toList R) := by kernel_rfl
theorem ring_Ring_Post_nil_sh (h1c0 : Int) (h1c1 : Int) {H : Heap} {R : Value → Heap → Prop} (h : ring_Ring_Post_nil_p h1c0 h1c1 H R) : FnW Try.prog f_ring_Ring_Post ⟨[(Value.pointer none), (Value.agg ⟨[(Value.int .i64 h1c0), (Value.int .i64 h1c1)]⟩)]⟩ H R := FnW.of_code k_ring_Ring_Post rfl (Eq.mp (ring_Ring_Post_nil_eq h1c0 h1c1 H R) h)
def plan_ring_Ring_Fill : Plan := ⟨[], []⟩
theorem k_ring_Ring_Fill : Known Try.prog f_ring_Ring_Fill Try.f32 plan_ring_Ring_Fill (bodyOf Try.f32) := ⟨Try.func32, by kernel_rfl, by kernel_rfl, by kernel_rfl, by kernel_rfl, by kernel_rfl⟩
def ring_Ring_Fill_p (r0b : Nat) (p1b : Nat) (b2a : Option Addr) (b2n : Nat) (b2c : Nat) (H : Heap) (R : Value → Heap → Prop) : Prop :=
 FnW Try.prog f_ring_Ring_device ⟨[(Value.pointer (some ⟨r0b, 0, none⟩))]⟩ H fun x11v H1 =>
 ∃ x11r0c0 : Int, ∃ x11r0c1 : Int, ∃ x11r1 : Int, x11v = (Value.tuple ⟨[(Value.agg ⟨[(Value.int .i64 x11r0c0), (Value.int .i64 x11r0c1)]⟩), (Value.int .i64 x11r1)]⟩) ∧
 NewW H1 (Obj.cells ⟨[(Value.int .i64 0), (Value.int .i64 0)]⟩ T_pool_Handle) fun h7b H2 =>
 StCell H2 ⟨h7b, 0, none⟩ (Value.int .i64 x11r0c0) fun H3 =>
 StCell H3 ⟨h7b, 1, none⟩ (Value.int .i64 x11r0c1) fun H4 =>
 IfB ((x11r1 : Int) != 0)
 (R (Value.int .i64 x11r1) H4)
 (∃ x18c0 : Int, H4.cell ⟨h7b, 0, none⟩ = some (Value.int .i64 x18c0) ∧ ∃ x18c1 : Int, H4.cell ⟨h7b, 1, none⟩ = some (Value.int .i64 x18c1) ∧ FnW Try.prog f_pool_Pool_Write ⟨[(Value.pointer (some ⟨p1b, 0, none⟩)), (Value.agg ⟨[(Value.int .i64 x18c0), (Value.int .i64 x18c1)]⟩), (Value.slice b2a b2n b2c)]⟩ H4 fun x20v H5 =>
 ∃ x20 : Int, x20v = (Value.int .i64 x20) ∧
 R (Value.int .i64 x20) H5)
theorem ring_Ring_Fill_eq (r0b : Nat) (p1b : Nat) (b2a : Option Addr) (b2n : Nat) (b2c : Nat) (H : Heap) (R : Value → Heap → Prop) : ring_Ring_Fill_p r0b p1b b2a b2n b2c H R = CodeW Try.prog plan_ring_Ring_Fill (bodyOf Try.f32) (env0 [(Value.pointer (some ⟨r0b, 0, none⟩)), (Value.pointer (some ⟨p1b, 0, none⟩)), (Value.slice b2a b2n b2c)]) H (RetW Try.prog Try.f32.results.toList R) := by kernel_rfl
theorem ring_Ring_Fill_sh (r0b : Nat) (p1b : Nat) (b2a : Option Addr) (b2n : Nat) (b2c : Nat) {H : Heap} {R : Value → Heap → Prop} (h : ring_Ring_Fill_p r0b p1b b2a b2n b2c H R) : FnW Try.prog f_ring_Ring_Fill ⟨[(Value.pointer (some ⟨r0b, 0, none⟩)), (Value.pointer (some ⟨p1b, 0, none⟩)), (Value.slice b2a b2n b2c)]⟩ H R := FnW.of_code k_ring_Ring_Fill rfl (Eq.mp (ring_Ring_Fill_eq r0b p1b b2a b2n b2c H R) h)
def ring_Ring_Fill_nil_p (p1b : Nat) (b2a : Option Addr) (b2n : Nat) (b2c : Nat) (H : Heap) (R : Value → Heap → Prop) : Prop :=
 FnW Try.prog f_ring_Ring_device ⟨[(Value.pointer none)]⟩ H fun x11v H1 =>
 ∃ x11r0c0 : Int, ∃ x11r0c1 : Int, ∃ x11r1 : Int, x11v = (Value.tuple ⟨[(Value.agg ⟨[(Value.int .i64 x11r0c0), (Value.int .i64 x11r0c1)]⟩), (Value.int .i64 x11r1)]⟩) ∧
 NewW H1 (Obj.cells ⟨[(Value.int .i64 0), (Value.int .i64 0)]⟩ T_pool_Handle) fun h7b H2 =>
 StCell H2 ⟨h7b, 0, none⟩ (Value.int .i64 x11r0c0) fun H3 =>
 StCell H3 ⟨h7b, 1, none⟩ (Value.int .i64 x11r0c1) fun H4 =>
 IfB ((x11r1 : Int) != 0)
 (R (Value.int .i64 x11r1) H4)
 (∃ x18c0 : Int, H4.cell ⟨h7b, 0, none⟩ = some (Value.int .i64 x18c0) ∧ ∃ x18c1 : Int, H4.cell ⟨h7b, 1, none⟩ = some (Value.int .i64 x18c1) ∧ FnW Try.prog f_pool_Pool_Write ⟨[(Value.pointer (some ⟨p1b, 0, none⟩)), (Value.agg ⟨[(Value.int .i64 x18c0), (Value.int .i64 x18c1)]⟩), (Value.slice b2a b2n b2c)]⟩ H4 fun x20v H5 =>
 ∃ x20 : Int, x20v = (Value.int .i64 x20) ∧
 R (Value.int .i64 x20) H5)
theorem ring_Ring_Fill_nil_eq (p1b : Nat) (b2a : Option Addr) (b2n : Nat) (b2c : Nat) (H : Heap) (R : Value → Heap → Prop) : ring_Ring_Fill_nil_p p1b b2a b2n b2c H R = CodeW Try.prog plan_ring_Ring_Fill (bodyOf Try.f32) (env0 [(Value.pointer none), (Value.pointer (some ⟨p1b, 0, none⟩)), (Value.slice b2a b2n b2c)]) H (RetW Try.prog Try.f32.results.toList R) := by kernel_rfl
theorem ring_Ring_Fill_nil_sh (p1b : Nat) (b2a : Option Addr) (b2n : Nat) (b2c : Nat) {H : Heap} {R : Value → Heap → Prop} (h : ring_Ring_Fill_nil_p p1b b2a b2n b2c H R) : FnW Try.prog f_ring_Ring_Fill ⟨[(Value.pointer none), (Value.pointer (some ⟨p1b, 0, none⟩)), (Value.slice b2a b2n b2c)]⟩ H R := FnW.of_code k_ring_Ring_Fill rfl (Eq.mp (ring_Ring_Fill_nil_eq p1b b2a b2n b2c H R) h)
def plan_ring_Ring_Reap : Plan := ⟨[], []⟩
theorem k_ring_Ring_Reap : Known Try.prog f_ring_Ring_Reap Try.f33 plan_ring_Ring_Reap (bodyOf Try.f33) := ⟨Try.func33, by kernel_rfl, by kernel_rfl, by kernel_rfl, by kernel_rfl, by kernel_rfl⟩
def ring_Ring_Reap_p (r0b : Nat) (H : Heap) (R : Value → Heap → Prop) : Prop :=
 NewW H (Obj.cells ⟨[(Value.int .i64 0), (Value.int .i64 0)]⟩ T_pool_Handle) fun x2b H1 =>
 FnW Try.prog f_ring_Ring_is ⟨[(Value.pointer (some ⟨r0b, 0, none⟩))]⟩ H1 fun x7v H2 =>
 ∃ x7 : Bool, x7v = (Value.bool x7) ∧
 IfB (!x7)
 (StCell H2 ⟨x2b, 0, none⟩ (Value.int .i64 0) fun H3 =>
 StCell H3 ⟨x2b, 1, none⟩ (Value.int .i64 0) fun H4 =>
 ∃ r0c0 : Int, H4.cell ⟨x2b, 0, none⟩ = some (Value.int .i64 r0c0) ∧ ∃ r0c1 : Int, H4.cell ⟨x2b, 1, none⟩ = some (Value.int .i64 r0c1) ∧ R (Value.tuple ⟨[(Value.agg ⟨[(Value.int .i64 r0c0), (Value.int .i64 r0c1)]⟩), (Value.int .i64 1)]⟩) H4)
 (FnW Try.prog f_ring_Ring_turn ⟨[(Value.pointer (some ⟨r0b, 0, none⟩)), (Value.pointer (some ⟨r0b, 195, none⟩)), (Value.int .i64 2), (Value.int .i64 0)]⟩ H2 fun x15v H5 =>
 ∃ x15r0 : Option Addr, ∃ x15r1 : Bool, x15v = (Value.tuple ⟨[(Value.pointer x15r0), (Value.bool x15r1)]⟩) ∧
 IfB (!x15r1)
 (StCell H5 ⟨x2b, 0, none⟩ (Value.int .i64 0) fun H6 =>
 StCell H6 ⟨x2b, 1, none⟩ (Value.int .i64 0) fun H7 =>
 ∃ r0c0_1 : Int, H7.cell ⟨x2b, 0, none⟩ = some (Value.int .i64 r0c0_1) ∧ ∃ r0c1_1 : Int, H7.cell ⟨x2b, 1, none⟩ = some (Value.int .i64 r0c1_1) ∧ R (Value.tuple ⟨[(Value.agg ⟨[(Value.int .i64 r0c0_1), (Value.int .i64 r0c1_1)]⟩), (Value.int .i64 30)]⟩) H7)
 (NilP x15r0 fun x22p =>
 ∃ x24c0 : Int, H5.cell ⟨x22p.block, x22p.off + 1, none⟩ = some (Value.int .i64 x24c0) ∧ ∃ x24c1 : Int, H5.cell ⟨x22p.block, x22p.off + 2, none⟩ = some (Value.int .i64 x24c1) ∧ StCell H5 ⟨x2b, 0, none⟩ (Value.int .i64 x24c0) fun H8 =>
 StCell H8 ⟨x2b, 1, none⟩ (Value.int .i64 x24c1) fun H9 =>
 ∃ r0c0_2 : Int, H9.cell ⟨x2b, 0, none⟩ = some (Value.int .i64 r0c0_2) ∧ ∃ r0c1_2 : Int, H9.cell ⟨x2b, 1, none⟩ = some (Value.int .i64 r0c1_2) ∧ R (Value.tuple ⟨[(Value.agg ⟨[(Value.int .i64 r0c0_2), (Value.int .i64 r0c1_2)]⟩), (Value.int .i64 0)]⟩) H9))
theorem ring_Ring_Reap_eq (r0b : Nat) (H : Heap) (R : Value → Heap → Prop) : ring_Ring_Reap_p r0b H R = CodeW Try.prog plan_ring_Ring_Reap (bodyOf Try.f33) (env0 [(Value.pointer (some ⟨r0b, 0, none⟩))]) H (RetW Try.prog Try.f33.results.toList R) := by kernel_rfl
theorem ring_Ring_Reap_sh (r0b : Nat) {H : Heap} {R : Value → Heap → Prop} (h : ring_Ring_Reap_p r0b H R) : FnW Try.prog f_ring_Ring_Reap ⟨[(Value.pointer (some ⟨r0b, 0, none⟩))]⟩ H R := FnW.of_code k_ring_Ring_Reap rfl (Eq.mp (ring_Ring_Reap_eq r0b H R) h)
def ring_Ring_Reap_nil_p (H : Heap) (R : Value → Heap → Prop) : Prop :=
 NewW H (Obj.cells ⟨[(Value.int .i64 0), (Value.int .i64 0)]⟩ T_pool_Handle) fun x2b H1 =>
 FnW Try.prog f_ring_Ring_is ⟨[(Value.pointer none)]⟩ H1 fun x7v H2 =>
 ∃ x7 : Bool, x7v = (Value.bool x7) ∧
 IfB (!x7)
 (StCell H2 ⟨x2b, 0, none⟩ (Value.int .i64 0) fun H3 =>
 StCell H3 ⟨x2b, 1, none⟩ (Value.int .i64 0) fun H4 =>
 ∃ r0c0 : Int, H4.cell ⟨x2b, 0, none⟩ = some (Value.int .i64 r0c0) ∧ ∃ r0c1 : Int, H4.cell ⟨x2b, 1, none⟩ = some (Value.int .i64 r0c1) ∧ R (Value.tuple ⟨[(Value.agg ⟨[(Value.int .i64 r0c0), (Value.int .i64 r0c1)]⟩), (Value.int .i64 1)]⟩) H4)
 (False)
theorem ring_Ring_Reap_nil_eq  (H : Heap) (R : Value → Heap → Prop) : ring_Ring_Reap_nil_p  H R = CodeW Try.prog plan_ring_Ring_Reap (bodyOf Try.f33) (env0 [(Value.pointer none)]) H (RetW Try.prog Try.f33.results.toList R) := by kernel_rfl
theorem ring_Ring_Reap_nil_sh  {H : Heap} {R : Value → Heap → Prop} (h : ring_Ring_Reap_nil_p  H R) : FnW Try.prog f_ring_Ring_Reap ⟨[(Value.pointer none)]⟩ H R := FnW.of_code k_ring_Ring_Reap rfl (Eq.mp (ring_Ring_Reap_nil_eq  H R) h)
def plan_ring_Ring_Slots : Plan := ⟨[], [(5, [3, 18], [.slice, .int .i64], [16, 17])]⟩
theorem k_ring_Ring_Slots : Known Try.prog f_ring_Ring_Slots Try.f34 plan_ring_Ring_Slots (bodyOf Try.f34) := ⟨Try.func34, by kernel_rfl, by kernel_rfl, by kernel_rfl, by kernel_rfl, by kernel_rfl⟩
def ring_Ring_Slots_l5 (r0b : Nat) (x16h : Nat) (l3a : Option Addr) (l3n : Nat) (l3c : Nat) (x18 : Int) (H2 : Heap) (next5 : ((Option Addr × Nat × Nat) × Int × Unit) → Heap → Prop) (R : Value → Heap → Prop) : Prop :=
 IfB (decide ((x18 : Int) < (x16h : Int)))
 (InB x18 x16h fun x20i =>
 ∃ x21c0 : Int, H2.cell ⟨r0b, 0 + x20i * 3, none⟩ = some (Value.int .i64 x21c0) ∧ ∃ x21c1 : Int, H2.cell ⟨r0b, 0 + x20i * 3 + 1, none⟩ = some (Value.int .i64 x21c1) ∧ ∃ x21c2 : Int, H2.cell ⟨r0b, 0 + x20i * 3 + 2, none⟩ = some (Value.int .i64 x21c2) ∧ NewW H2 (Obj.cells ⟨[(Value.int .i64 0), (Value.int .i64 0), (Value.int .i64 0)]⟩ T_ring_slot) fun s5b H3 =>
 StCell H3 ⟨s5b, 0, none⟩ (Value.int .i64 x21c0) fun H4 =>
 StCell H4 ⟨s5b, 1, none⟩ (Value.int .i64 x21c1) fun H5 =>
 StCell H5 ⟨s5b, 2, none⟩ (Value.int .i64 x21c2) fun H6 =>
 ∃ x24 : Int, H6.cell ⟨s5b, 0, none⟩ = some (Value.int .i64 x24) ∧
 NewW H6 (Obj.cells ⟨[(Value.int .i64 x24)]⟩ T_int) fun x25b H7 =>
 AppW Try.prog #[T_sl_int, T_sl_int] T_sl_int [(Value.slice l3a l3n l3c), (Value.slice (some ⟨x25b, 0, none⟩) 1 1)] H7 fun x26v H8 =>
 ∃ (x26a : Option Addr) (x26n x26c : Nat), x26v = (Value.slice x26a x26n x26c) ∧
 next5 ((x26a, x26n, x26c), ((IntKind.wrap .i64 (x18 + 1)), ())) H8)
 (R (Value.slice l3a l3n l3c) H2)
def ring_Ring_Slots_p (r0b : Nat) (H : Heap) (R : Value → Heap → Prop) : Prop :=
 FnW Try.prog f_ring_Ring_is ⟨[(Value.pointer (some ⟨r0b, 0, none⟩))]⟩ H fun x7v H1 =>
 ∃ x7 : Bool, x7v = (Value.bool x7) ∧
 IfB (!x7)
 (R (Value.slice none 0 0) H1)
 (∃ x15 : Int, H1.cell ⟨r0b, 192, none⟩ = some (Value.int .i64 x15) ∧
 InC x15 64 fun x16h =>
 LoopI ((Option Addr × Nat × Nat) × Int × Unit) ((none, 0, 0), (0, ())) H1 fun x H next => ∀ _g : Env, ring_Ring_Slots_l5 r0b x16h x.1.1 x.1.2.1 x.1.2.2 x.2.1 H next R)
theorem ring_Ring_Slots_eq (r0b : Nat) (H : Heap) (R : Value → Heap → Prop) : ring_Ring_Slots_p r0b H R = CodeW Try.prog plan_ring_Ring_Slots (bodyOf Try.f34) (env0 [(Value.pointer (some ⟨r0b, 0, none⟩))]) H (RetW Try.prog Try.f34.results.toList R) := by kernel_rfl
theorem ring_Ring_Slots_sh (r0b : Nat) {H : Heap} {R : Value → Heap → Prop} (h : ring_Ring_Slots_p r0b H R) : FnW Try.prog f_ring_Ring_Slots ⟨[(Value.pointer (some ⟨r0b, 0, none⟩))]⟩ H R := FnW.of_code k_ring_Ring_Slots rfl (Eq.mp (ring_Ring_Slots_eq r0b H R) h)
def ring_Ring_Slots_nil_p (H : Heap) (R : Value → Heap → Prop) : Prop :=
 FnW Try.prog f_ring_Ring_is ⟨[(Value.pointer none)]⟩ H fun x7v H1 =>
 ∃ x7 : Bool, x7v = (Value.bool x7) ∧
 IfB (!x7)
 (R (Value.slice none 0 0) H1)
 (False)
theorem ring_Ring_Slots_nil_eq  (H : Heap) (R : Value → Heap → Prop) : ring_Ring_Slots_nil_p  H R = CodeW Try.prog plan_ring_Ring_Slots (bodyOf Try.f34) (env0 [(Value.pointer none)]) H (RetW Try.prog Try.f34.results.toList R) := by kernel_rfl
theorem ring_Ring_Slots_nil_sh  {H : Heap} {R : Value → Heap → Prop} (h : ring_Ring_Slots_nil_p  H R) : FnW Try.prog f_ring_Ring_Slots ⟨[(Value.pointer none)]⟩ H R := FnW.of_code k_ring_Ring_Slots rfl (Eq.mp (ring_Ring_Slots_nil_eq  H R) h)
def plan_ring_Ring_Count : Plan := ⟨[], []⟩
theorem k_ring_Ring_Count : Known Try.prog f_ring_Ring_Count Try.f35 plan_ring_Ring_Count (bodyOf Try.f35) := ⟨Try.func35, by kernel_rfl, by kernel_rfl, by kernel_rfl, by kernel_rfl, by kernel_rfl⟩
def ring_Ring_Count_j0 (r0b : Nat) (state1 : Int) (x15 : Bool) (H2 : Heap) (R : Value → Heap → Prop) : Prop :=
 IfB x15
 (R (Value.int .i64 0) H2)
 (InB state1 3 fun x20i =>
 ∃ x21 : Int, H2.cell ⟨r0b, 196 + x20i * 1, none⟩ = some (Value.int .i64 x21) ∧
 R (Value.int .i64 x21) H2)
def ring_Ring_Count_p (r0b : Nat) (state1 : Int) (H : Heap) (R : Value → Heap → Prop) : Prop :=
 FnW Try.prog f_ring_Ring_is ⟨[(Value.pointer (some ⟨r0b, 0, none⟩))]⟩ H fun x6v H1 =>
 ∃ x6 : Bool, x6v = (Value.bool x6) ∧
 IfB (!x6)
 (ring_Ring_Count_j0 r0b state1 true H1 R)
 (IfB (decide ((state1 : Int) < 0))
 (ring_Ring_Count_j0 r0b state1 true H1 R)
 (ring_Ring_Count_j0 r0b state1 (decide ((state1 : Int) ≥ 3)) H1 R))
theorem ring_Ring_Count_eq (r0b : Nat) (state1 : Int) (H : Heap) (R : Value → Heap → Prop) : ring_Ring_Count_p r0b state1 H R = CodeW Try.prog plan_ring_Ring_Count (bodyOf Try.f35) (env0 [(Value.pointer (some ⟨r0b, 0, none⟩)), (Value.int .i64 state1)]) H (RetW Try.prog Try.f35.results.toList R) := by kernel_rfl
theorem ring_Ring_Count_sh (r0b : Nat) (state1 : Int) {H : Heap} {R : Value → Heap → Prop} (h : ring_Ring_Count_p r0b state1 H R) : FnW Try.prog f_ring_Ring_Count ⟨[(Value.pointer (some ⟨r0b, 0, none⟩)), (Value.int .i64 state1)]⟩ H R := FnW.of_code k_ring_Ring_Count rfl (Eq.mp (ring_Ring_Count_eq r0b state1 H R) h)
def ring_Ring_Count_nil_j0 (state1 : Int) (x15 : Bool) (H2 : Heap) (R : Value → Heap → Prop) : Prop :=
 IfB x15
 (R (Value.int .i64 0) H2)
 (False)
def ring_Ring_Count_nil_p (state1 : Int) (H : Heap) (R : Value → Heap → Prop) : Prop :=
 FnW Try.prog f_ring_Ring_is ⟨[(Value.pointer none)]⟩ H fun x6v H1 =>
 ∃ x6 : Bool, x6v = (Value.bool x6) ∧
 IfB (!x6)
 (ring_Ring_Count_nil_j0 state1 true H1 R)
 (IfB (decide ((state1 : Int) < 0))
 (ring_Ring_Count_nil_j0 state1 true H1 R)
 (ring_Ring_Count_nil_j0 state1 (decide ((state1 : Int) ≥ 3)) H1 R))
theorem ring_Ring_Count_nil_eq (state1 : Int) (H : Heap) (R : Value → Heap → Prop) : ring_Ring_Count_nil_p state1 H R = CodeW Try.prog plan_ring_Ring_Count (bodyOf Try.f35) (env0 [(Value.pointer none), (Value.int .i64 state1)]) H (RetW Try.prog Try.f35.results.toList R) := by kernel_rfl
theorem ring_Ring_Count_nil_sh (state1 : Int) {H : Heap} {R : Value → Heap → Prop} (h : ring_Ring_Count_nil_p state1 H R) : FnW Try.prog f_ring_Ring_Count ⟨[(Value.pointer none), (Value.int .i64 state1)]⟩ H R := FnW.of_code k_ring_Ring_Count rfl (Eq.mp (ring_Ring_Count_nil_eq state1 H R) h)
def plan_ring_Ring_Take : Plan := ⟨[], []⟩
theorem k_ring_Ring_Take : Known Try.prog f_ring_Ring_Take Try.f36 plan_ring_Ring_Take (bodyOf Try.f36) := ⟨Try.func36, by kernel_rfl, by kernel_rfl, by kernel_rfl, by kernel_rfl, by kernel_rfl⟩
def ring_Ring_Take_p (r0b : Nat) (p1b : Nat) (H : Heap) (R : Value → Heap → Prop) : Prop :=
 FnW Try.prog f_ring_Ring_device ⟨[(Value.pointer (some ⟨r0b, 0, none⟩))]⟩ H fun x10v H1 =>
 ∃ x10r0c0 : Int, ∃ x10r0c1 : Int, ∃ x10r1 : Int, x10v = (Value.tuple ⟨[(Value.agg ⟨[(Value.int .i64 x10r0c0), (Value.int .i64 x10r0c1)]⟩), (Value.int .i64 x10r1)]⟩) ∧
 NewW H1 (Obj.cells ⟨[(Value.int .i64 0), (Value.int .i64 0)]⟩ T_pool_Handle) fun h6b H2 =>
 StCell H2 ⟨h6b, 0, none⟩ (Value.int .i64 x10r0c0) fun H3 =>
 StCell H3 ⟨h6b, 1, none⟩ (Value.int .i64 x10r0c1) fun H4 =>
 IfB ((x10r1 : Int) != 0)
 (R (Value.tuple ⟨[(Value.slice none 0 0), (Value.int .i64 x10r1)]⟩) H4)
 (∃ x17c0 : Int, H4.cell ⟨h6b, 0, none⟩ = some (Value.int .i64 x17c0) ∧ ∃ x17c1 : Int, H4.cell ⟨h6b, 1, none⟩ = some (Value.int .i64 x17c1) ∧ FnW Try.prog f_pool_Pool_Read ⟨[(Value.pointer (some ⟨p1b, 0, none⟩)), (Value.agg ⟨[(Value.int .i64 x17c0), (Value.int .i64 x17c1)]⟩)]⟩ H4 fun x18v H5 =>
 ∃ (x18r0a : Option Addr) (x18r0n x18r0c : Nat), ∃ x18r1 : Int, x18v = (Value.tuple ⟨[(Value.slice x18r0a x18r0n x18r0c), (Value.int .i64 x18r1)]⟩) ∧
 R (Value.tuple ⟨[(Value.slice x18r0a x18r0n x18r0c), (Value.int .i64 x18r1)]⟩) H5)
theorem ring_Ring_Take_eq (r0b : Nat) (p1b : Nat) (H : Heap) (R : Value → Heap → Prop) : ring_Ring_Take_p r0b p1b H R = CodeW Try.prog plan_ring_Ring_Take (bodyOf Try.f36) (env0 [(Value.pointer (some ⟨r0b, 0, none⟩)), (Value.pointer (some ⟨p1b, 0, none⟩))]) H (RetW Try.prog Try.f36.results.toList R) := by kernel_rfl
theorem ring_Ring_Take_sh (r0b : Nat) (p1b : Nat) {H : Heap} {R : Value → Heap → Prop} (h : ring_Ring_Take_p r0b p1b H R) : FnW Try.prog f_ring_Ring_Take ⟨[(Value.pointer (some ⟨r0b, 0, none⟩)), (Value.pointer (some ⟨p1b, 0, none⟩))]⟩ H R := FnW.of_code k_ring_Ring_Take rfl (Eq.mp (ring_Ring_Take_eq r0b p1b H R) h)
def ring_Ring_Take_nil_p (p1b : Nat) (H : Heap) (R : Value → Heap → Prop) : Prop :=
 FnW Try.prog f_ring_Ring_device ⟨[(Value.pointer none)]⟩ H fun x10v H1 =>
 ∃ x10r0c0 : Int, ∃ x10r0c1 : Int, ∃ x10r1 : Int, x10v = (Value.tuple ⟨[(Value.agg ⟨[(Value.int .i64 x10r0c0), (Value.int .i64 x10r0c1)]⟩), (Value.int .i64 x10r1)]⟩) ∧
 NewW H1 (Obj.cells ⟨[(Value.int .i64 0), (Value.int .i64 0)]⟩ T_pool_Handle) fun h6b H2 =>
 StCell H2 ⟨h6b, 0, none⟩ (Value.int .i64 x10r0c0) fun H3 =>
 StCell H3 ⟨h6b, 1, none⟩ (Value.int .i64 x10r0c1) fun H4 =>
 IfB ((x10r1 : Int) != 0)
 (R (Value.tuple ⟨[(Value.slice none 0 0), (Value.int .i64 x10r1)]⟩) H4)
 (∃ x17c0 : Int, H4.cell ⟨h6b, 0, none⟩ = some (Value.int .i64 x17c0) ∧ ∃ x17c1 : Int, H4.cell ⟨h6b, 1, none⟩ = some (Value.int .i64 x17c1) ∧ FnW Try.prog f_pool_Pool_Read ⟨[(Value.pointer (some ⟨p1b, 0, none⟩)), (Value.agg ⟨[(Value.int .i64 x17c0), (Value.int .i64 x17c1)]⟩)]⟩ H4 fun x18v H5 =>
 ∃ (x18r0a : Option Addr) (x18r0n x18r0c : Nat), ∃ x18r1 : Int, x18v = (Value.tuple ⟨[(Value.slice x18r0a x18r0n x18r0c), (Value.int .i64 x18r1)]⟩) ∧
 R (Value.tuple ⟨[(Value.slice x18r0a x18r0n x18r0c), (Value.int .i64 x18r1)]⟩) H5)
theorem ring_Ring_Take_nil_eq (p1b : Nat) (H : Heap) (R : Value → Heap → Prop) : ring_Ring_Take_nil_p p1b H R = CodeW Try.prog plan_ring_Ring_Take (bodyOf Try.f36) (env0 [(Value.pointer none), (Value.pointer (some ⟨p1b, 0, none⟩))]) H (RetW Try.prog Try.f36.results.toList R) := by kernel_rfl
theorem ring_Ring_Take_nil_sh (p1b : Nat) {H : Heap} {R : Value → Heap → Prop} (h : ring_Ring_Take_nil_p p1b H R) : FnW Try.prog f_ring_Ring_Take ⟨[(Value.pointer none), (Value.pointer (some ⟨p1b, 0, none⟩))]⟩ H R := FnW.of_code k_ring_Ring_Take rfl (Eq.mp (ring_Ring_Take_nil_eq p1b H R) h)
def plan_ref03_Make : Plan := ⟨[], []⟩
theorem k_ref03_Make : Known Try.prog f_ref03_Make Try.f37 plan_ref03_Make (bodyOf Try.f37) := ⟨Try.func37, by kernel_rfl, by kernel_rfl, by kernel_rfl, by kernel_rfl, by kernel_rfl⟩
def ref03_Make_j0 (n0 : Int) (x9 : Bool) (H1 : Heap) (R : Value → Heap → Prop) : Prop :=
 IfB x9
 (R (Value.tuple ⟨[(Value.pointer none), (Value.int .i64 2)]⟩) H1)
 (NewW H1 (Obj.cells ⟨[(Value.int .i64 n0), (Value.slice none 0 0), (Value.slice none 0 0), (Value.int .i64 0), (Value.int .i64 0), (Value.int .i64 0)]⟩ T_ref03_Ring) fun x12b H2 =>
 R (Value.tuple ⟨[(Value.pointer (some ⟨x12b, 0, none⟩)), (Value.int .i64 0)]⟩) H2)
def ref03_Make_p (n0 : Int) (H : Heap) (R : Value → Heap → Prop) : Prop :=
 IfB (decide ((n0 : Int) < 1))
 (ref03_Make_j0 n0 true H R)
 (ref03_Make_j0 n0 (decide ((n0 : Int) > 64)) H R)
theorem ref03_Make_eq (n0 : Int) (H : Heap) (R : Value → Heap → Prop) : ref03_Make_p n0 H R = CodeW Try.prog plan_ref03_Make (bodyOf Try.f37) (env0 [(Value.int .i64 n0)]) H (RetW Try.prog Try.f37.results.toList R) := by kernel_rfl
theorem ref03_Make_sh (n0 : Int) {H : Heap} {R : Value → Heap → Prop} (h : ref03_Make_p n0 H R) : FnW Try.prog f_ref03_Make ⟨[(Value.int .i64 n0)]⟩ H R := FnW.of_code k_ref03_Make rfl (Eq.mp (ref03_Make_eq n0 H R) h)
def plan_ref03_Ring_Post : Plan := ⟨[(3, [0, 2, 3, 4, 5, 7, 1, 8, 6, 9, 10, 11, 12], [28])], []⟩
theorem k_ref03_Ring_Post : Known Try.prog f_ref03_Ring_Post Try.f38 plan_ref03_Ring_Post (bodyOf Try.f38) := ⟨Try.func38, by kernel_rfl, by kernel_rfl, by kernel_rfl, by kernel_rfl, by kernel_rfl⟩
def ref03_Ring_Post_p (r0b : Nat) (h1c0 : Int) (h1c1 : Int) (H : Heap) (R : Value → Heap → Prop) : Prop :=
 NewW H (Obj.cells ⟨[(Value.int .i64 h1c0), (Value.int .i64 h1c1)]⟩ T_ref02_Handle) fun h3b H1 =>
 ∃ (x8a : Option Addr) (x8n x8c : Nat), H1.cell ⟨r0b, 1, none⟩ = some (Value.slice x8a x8n x8c) ∧
 ∃ (x13a : Option Addr) (x13n x13c : Nat), H1.cell ⟨r0b, 2, none⟩ = some (Value.slice x13a x13n x13c) ∧
 ∃ x19 : Int, H1.cell ⟨r0b, 0, none⟩ = some (Value.int .i64 x19) ∧
 IfB (((IntKind.wrap .i64 ((x8n : Int) + (x13n : Int))) : Int) == x19)
 (R (Value.int .i64 4) H1)
 (∃ bs : List Nat, (∀ b ∈ bs, ∃ o, H1 b = some o) ∧
 ∃ (x26a : Option Addr) (x26n x26c : Nat), H1.cell ⟨r0b, 1, none⟩ = some (Value.slice x26a x26n x26c) ∧
 h3b ∈ bs ∧ ∃ x28c0 : Int, H1.cell ⟨h3b, 0, none⟩ = some (Value.int .i64 x28c0) ∧ ∃ x28c1 : Int, H1.cell ⟨h3b, 1, none⟩ = some (Value.int .i64 x28c1) ∧ NewW H1 (Obj.cells ⟨[]⟩ T_ref02_Handle) fun x22b H2 =>
 NewW H2 (Obj.cells ⟨[(Value.int .i64 x28c0), (Value.int .i64 x28c1)]⟩ T_ref02_Handle) fun x29b H3 =>
 AppW Try.prog #[T_sl_pointsmanref02_Handle, T_sl_pointsmanref02_Handle] T_sl_pointsmanref02_Handle [(Value.slice (some ⟨x22b, 0, none⟩) 0 0), (Value.slice x26a x26n x26c)] H3 fun x27v H4 =>
 ∃ (x27a : Option Addr) (x27n x27c : Nat), x27v = (Value.slice x27a x27n x27c) ∧
 KeptIn bs H1 H4 ∧ AppW Try.prog #[T_sl_pointsmanref02_Handle, T_sl_pointsmanref02_Handle] T_sl_pointsmanref02_Handle [(Value.slice x27a x27n x27c), (Value.slice (some ⟨x29b, 0, none⟩) 1 1)] H4 fun x30v H5 =>
 ∃ (x30a : Option Addr) (x30n x30c : Nat), x30v = (Value.slice x30a x30n x30c) ∧
 KeptIn bs H1 H5 ∧ StCell H5 ⟨r0b, 1, none⟩ (Value.slice x30a x30n x30c) fun H6 =>
 KeptIn bs H1 H6 ∧ ∃ x36 : Int, H6.cell ⟨r0b, 3, none⟩ = some (Value.int .i64 x36) ∧
 StCell H6 ⟨r0b, 3, none⟩ (Value.int .i64 (IntKind.wrap .i64 (x36 + 1))) fun H7 =>
 R (Value.int .i64 0) H7)
theorem ref03_Ring_Post_eq (r0b : Nat) (h1c0 : Int) (h1c1 : Int) (H : Heap) (R : Value → Heap → Prop) : ref03_Ring_Post_p r0b h1c0 h1c1 H R = CodeW Try.prog plan_ref03_Ring_Post (bodyOf Try.f38) (env0 [(Value.pointer (some ⟨r0b, 0, none⟩)), (Value.agg ⟨[(Value.int .i64 h1c0), (Value.int .i64 h1c1)]⟩)]) H (RetW Try.prog Try.f38.results.toList R) := by kernel_rfl
theorem ref03_Ring_Post_sh (r0b : Nat) (h1c0 : Int) (h1c1 : Int) {H : Heap} {R : Value → Heap → Prop} (h : ref03_Ring_Post_p r0b h1c0 h1c1 H R) : FnW Try.prog f_ref03_Ring_Post ⟨[(Value.pointer (some ⟨r0b, 0, none⟩)), (Value.agg ⟨[(Value.int .i64 h1c0), (Value.int .i64 h1c1)]⟩)]⟩ H R := FnW.of_code k_ref03_Ring_Post rfl (Eq.mp (ref03_Ring_Post_eq r0b h1c0 h1c1 H R) h)
def plan_ref03_Ring_Fill : Plan := ⟨[], []⟩
theorem k_ref03_Ring_Fill : Known Try.prog f_ref03_Ring_Fill Try.f39 plan_ref03_Ring_Fill (bodyOf Try.f39) := ⟨Try.func39, by kernel_rfl, by kernel_rfl, by kernel_rfl, by kernel_rfl, by kernel_rfl⟩
def ref03_Ring_Fill_p (r0b : Nat) (p1b : Nat) (b2a : Option Addr) (b2n : Nat) (b2c : Nat) (H : Heap) (R : Value → Heap → Prop) : Prop :=
 FnW Try.prog f_ref03_Ring_work ⟨[(Value.pointer (some ⟨r0b, 0, none⟩))]⟩ H fun x11v H1 =>
 ∃ x11r0c0 : Int, ∃ x11r0c1 : Int, ∃ x11r1 : Bool, x11v = (Value.tuple ⟨[(Value.agg ⟨[(Value.int .i64 x11r0c0), (Value.int .i64 x11r0c1)]⟩), (Value.bool x11r1)]⟩) ∧
 NewW H1 (Obj.cells ⟨[(Value.int .i64 0), (Value.int .i64 0)]⟩ T_ref02_Handle) fun h7b H2 =>
 StCell H2 ⟨h7b, 0, none⟩ (Value.int .i64 x11r0c0) fun H3 =>
 StCell H3 ⟨h7b, 1, none⟩ (Value.int .i64 x11r0c1) fun H4 =>
 IfB (!x11r1)
 (R (Value.int .i64 30) H4)
 (∃ x17c0 : Int, H4.cell ⟨h7b, 0, none⟩ = some (Value.int .i64 x17c0) ∧ ∃ x17c1 : Int, H4.cell ⟨h7b, 1, none⟩ = some (Value.int .i64 x17c1) ∧ FnW Try.prog f_ref02_Pool_Write ⟨[(Value.pointer (some ⟨p1b, 0, none⟩)), (Value.agg ⟨[(Value.int .i64 x17c0), (Value.int .i64 x17c1)]⟩), (Value.slice b2a b2n b2c)]⟩ H4 fun x19v H5 =>
 ∃ x19 : Int, x19v = (Value.int .i64 x19) ∧
 R (Value.int .i64 x19) H5)
theorem ref03_Ring_Fill_eq (r0b : Nat) (p1b : Nat) (b2a : Option Addr) (b2n : Nat) (b2c : Nat) (H : Heap) (R : Value → Heap → Prop) : ref03_Ring_Fill_p r0b p1b b2a b2n b2c H R = CodeW Try.prog plan_ref03_Ring_Fill (bodyOf Try.f39) (env0 [(Value.pointer (some ⟨r0b, 0, none⟩)), (Value.pointer (some ⟨p1b, 0, none⟩)), (Value.slice b2a b2n b2c)]) H (RetW Try.prog Try.f39.results.toList R) := by kernel_rfl
theorem ref03_Ring_Fill_sh (r0b : Nat) (p1b : Nat) (b2a : Option Addr) (b2n : Nat) (b2c : Nat) {H : Heap} {R : Value → Heap → Prop} (h : ref03_Ring_Fill_p r0b p1b b2a b2n b2c H R) : FnW Try.prog f_ref03_Ring_Fill ⟨[(Value.pointer (some ⟨r0b, 0, none⟩)), (Value.pointer (some ⟨p1b, 0, none⟩)), (Value.slice b2a b2n b2c)]⟩ H R := FnW.of_code k_ref03_Ring_Fill rfl (Eq.mp (ref03_Ring_Fill_eq r0b p1b b2a b2n b2c H R) h)
def plan_ref03_Ring_Take : Plan := ⟨[], []⟩
theorem k_ref03_Ring_Take : Known Try.prog f_ref03_Ring_Take Try.f40 plan_ref03_Ring_Take (bodyOf Try.f40) := ⟨Try.func40, by kernel_rfl, by kernel_rfl, by kernel_rfl, by kernel_rfl, by kernel_rfl⟩
def ref03_Ring_Take_p (r0b : Nat) (p1b : Nat) (H : Heap) (R : Value → Heap → Prop) : Prop :=
 FnW Try.prog f_ref03_Ring_work ⟨[(Value.pointer (some ⟨r0b, 0, none⟩))]⟩ H fun x10v H1 =>
 ∃ x10r0c0 : Int, ∃ x10r0c1 : Int, ∃ x10r1 : Bool, x10v = (Value.tuple ⟨[(Value.agg ⟨[(Value.int .i64 x10r0c0), (Value.int .i64 x10r0c1)]⟩), (Value.bool x10r1)]⟩) ∧
 NewW H1 (Obj.cells ⟨[(Value.int .i64 0), (Value.int .i64 0)]⟩ T_ref02_Handle) fun h6b H2 =>
 StCell H2 ⟨h6b, 0, none⟩ (Value.int .i64 x10r0c0) fun H3 =>
 StCell H3 ⟨h6b, 1, none⟩ (Value.int .i64 x10r0c1) fun H4 =>
 IfB (!x10r1)
 (R (Value.tuple ⟨[(Value.slice none 0 0), (Value.int .i64 30)]⟩) H4)
 (∃ x16c0 : Int, H4.cell ⟨h6b, 0, none⟩ = some (Value.int .i64 x16c0) ∧ ∃ x16c1 : Int, H4.cell ⟨h6b, 1, none⟩ = some (Value.int .i64 x16c1) ∧ FnW Try.prog f_ref02_Pool_Read ⟨[(Value.pointer (some ⟨p1b, 0, none⟩)), (Value.agg ⟨[(Value.int .i64 x16c0), (Value.int .i64 x16c1)]⟩)]⟩ H4 fun x17v H5 =>
 ∃ (x17r0a : Option Addr) (x17r0n x17r0c : Nat), ∃ x17r1 : Int, x17v = (Value.tuple ⟨[(Value.slice x17r0a x17r0n x17r0c), (Value.int .i64 x17r1)]⟩) ∧
 R (Value.tuple ⟨[(Value.slice x17r0a x17r0n x17r0c), (Value.int .i64 x17r1)]⟩) H5)
theorem ref03_Ring_Take_eq (r0b : Nat) (p1b : Nat) (H : Heap) (R : Value → Heap → Prop) : ref03_Ring_Take_p r0b p1b H R = CodeW Try.prog plan_ref03_Ring_Take (bodyOf Try.f40) (env0 [(Value.pointer (some ⟨r0b, 0, none⟩)), (Value.pointer (some ⟨p1b, 0, none⟩))]) H (RetW Try.prog Try.f40.results.toList R) := by kernel_rfl
theorem ref03_Ring_Take_sh (r0b : Nat) (p1b : Nat) {H : Heap} {R : Value → Heap → Prop} (h : ref03_Ring_Take_p r0b p1b H R) : FnW Try.prog f_ref03_Ring_Take ⟨[(Value.pointer (some ⟨r0b, 0, none⟩)), (Value.pointer (some ⟨p1b, 0, none⟩))]⟩ H R := FnW.of_code k_ref03_Ring_Take rfl (Eq.mp (ref03_Ring_Take_eq r0b p1b H R) h)
def plan_ref03_Ring_Reap : Plan := ⟨[], []⟩
theorem k_ref03_Ring_Reap : Known Try.prog f_ref03_Ring_Reap Try.f41 plan_ref03_Ring_Reap (bodyOf Try.f41) := ⟨Try.func41, by kernel_rfl, by kernel_rfl, by kernel_rfl, by kernel_rfl, by kernel_rfl⟩
def ref03_Ring_Reap_p (r0b : Nat) (H : Heap) (R : Value → Heap → Prop) : Prop :=
 NewW H (Obj.cells ⟨[(Value.int .i64 0), (Value.int .i64 0)]⟩ T_ref02_Handle) fun x2b H1 =>
 ∃ (x8a : Option Addr) (x8n x8c : Nat), H1.cell ⟨r0b, 2, none⟩ = some (Value.slice x8a x8n x8c) ∧
 IfB (((x8n : Int) : Int) == 0)
 (StCell H1 ⟨x2b, 0, none⟩ (Value.int .i64 0) fun H2 =>
 StCell H2 ⟨x2b, 1, none⟩ (Value.int .i64 0) fun H3 =>
 ∃ r0c0 : Int, H3.cell ⟨x2b, 0, none⟩ = some (Value.int .i64 r0c0) ∧ ∃ r0c1 : Int, H3.cell ⟨x2b, 1, none⟩ = some (Value.int .i64 r0c1) ∧ R (Value.tuple ⟨[(Value.agg ⟨[(Value.int .i64 r0c0), (Value.int .i64 r0c1)]⟩), (Value.int .i64 30)]⟩) H3)
 (∃ (x15a : Option Addr) (x15n x15c : Nat), H1.cell ⟨r0b, 2, none⟩ = some (Value.slice x15a x15n x15c) ∧
 NilP x15a fun x16q =>
 InB 0 x15n fun x16i =>
 elemAt x16q x16i 2 fun x16p =>
 ∃ x17c0 : Int, H1.cell x16p = some (Value.int .i64 x17c0) ∧ ∃ x17c1 : Int, H1.cell ⟨x16p.block, x16p.off + 1, none⟩ = some (Value.int .i64 x17c1) ∧ NewW H1 (Obj.cells ⟨[(Value.int .i64 0), (Value.int .i64 0)]⟩ T_ref02_Handle) fun h4b H4 =>
 StCell H4 ⟨h4b, 0, none⟩ (Value.int .i64 x17c0) fun H5 =>
 StCell H5 ⟨h4b, 1, none⟩ (Value.int .i64 x17c1) fun H6 =>
 NewW H6 (Obj.cells ⟨[]⟩ T_ref02_Handle) fun x19b H7 =>
 ∃ (x23a : Option Addr) (x23n x23c : Nat), H7.cell ⟨r0b, 2, none⟩ = some (Value.slice x23a x23n x23c) ∧
 InC 1 x23n fun x24l =>
 AppW Try.prog #[T_sl_pointsmanref02_Handle, T_sl_pointsmanref02_Handle] T_sl_pointsmanref02_Handle [(Value.slice (some ⟨x19b, 0, none⟩) 0 0), (Value.slice (if x23c = x24l then x23a else Option.map (fun a => Addr.add a (x24l * 2)) x23a) (x23n - x24l) (x23c - x24l))] H7 fun x25v H8 =>
 ∃ (x25a : Option Addr) (x25n x25c : Nat), x25v = (Value.slice x25a x25n x25c) ∧
 StCell H8 ⟨r0b, 2, none⟩ (Value.slice x25a x25n x25c) fun H9 =>
 ∃ x31 : Int, H9.cell ⟨r0b, 5, none⟩ = some (Value.int .i64 x31) ∧
 StCell H9 ⟨r0b, 5, none⟩ (Value.int .i64 (IntKind.wrap .i64 (x31 + 1))) fun H10 =>
 ∃ x35c0 : Int, H10.cell ⟨h4b, 0, none⟩ = some (Value.int .i64 x35c0) ∧ ∃ x35c1 : Int, H10.cell ⟨h4b, 1, none⟩ = some (Value.int .i64 x35c1) ∧ StCell H10 ⟨x2b, 0, none⟩ (Value.int .i64 x35c0) fun H11 =>
 StCell H11 ⟨x2b, 1, none⟩ (Value.int .i64 x35c1) fun H12 =>
 ∃ r0c0_1 : Int, H12.cell ⟨x2b, 0, none⟩ = some (Value.int .i64 r0c0_1) ∧ ∃ r0c1_1 : Int, H12.cell ⟨x2b, 1, none⟩ = some (Value.int .i64 r0c1_1) ∧ R (Value.tuple ⟨[(Value.agg ⟨[(Value.int .i64 r0c0_1), (Value.int .i64 r0c1_1)]⟩), (Value.int .i64 0)]⟩) H12)
theorem ref03_Ring_Reap_eq (r0b : Nat) (H : Heap) (R : Value → Heap → Prop) : ref03_Ring_Reap_p r0b H R = CodeW Try.prog plan_ref03_Ring_Reap (bodyOf Try.f41) (env0 [(Value.pointer (some ⟨r0b, 0, none⟩))]) H (RetW Try.prog Try.f41.results.toList R) := by kernel_rfl
theorem ref03_Ring_Reap_sh (r0b : Nat) {H : Heap} {R : Value → Heap → Prop} (h : ref03_Ring_Reap_p r0b H R) : FnW Try.prog f_ref03_Ring_Reap ⟨[(Value.pointer (some ⟨r0b, 0, none⟩))]⟩ H R := FnW.of_code k_ref03_Ring_Reap rfl (Eq.mp (ref03_Ring_Reap_eq r0b H R) h)
def plan_base_SameInts : Plan := ⟨[], [(4, [5], [.int .i64], [0, 1])]⟩
theorem k_base_SameInts : Known Try.prog f_base_SameInts Try.f42 plan_base_SameInts (bodyOf Try.f42) := ⟨Try.func42, by kernel_rfl, by kernel_rfl, by kernel_rfl, by kernel_rfl, by kernel_rfl⟩
def base_SameInts_l4 (a0a : Option Addr) (a0n : Nat) (a0c : Nat) (b1a : Option Addr) (b1n : Nat) (b1c : Nat) (i5 : Int) (H1 : Heap) (next4 : (Int × Unit) → Heap → Prop) (R : Value → Heap → Prop) : Prop :=
 IfB (decide ((i5 : Int) < (a0n : Int)))
 (NilP a0a fun x19q =>
 InB i5 a0n fun x19i =>
 elemAt x19q x19i 1 fun x19p =>
 ∃ x20 : Int, H1.cell x19p = some (Value.int .i64 x20) ∧
 NilP b1a fun x23q =>
 InB i5 b1n fun x23i =>
 elemAt x23q x23i 1 fun x23p =>
 ∃ x24 : Int, H1.cell x23p = some (Value.int .i64 x24) ∧
 IfB ((x20 : Int) != x24)
 (R (Value.bool false) H1)
 (next4 ((IntKind.wrap .i64 (i5 + 1)), ()) H1))
 (R (Value.bool true) H1)
def base_SameInts_p (a0a : Option Addr) (a0n : Nat) (a0c : Nat) (b1a : Option Addr) (b1n : Nat) (b1c : Nat) (H : Heap) (R : Value → Heap → Prop) : Prop :=
 IfB (((a0n : Int) : Int) != (b1n : Int))
 (R (Value.bool false) H)
 (LoopI (Int × Unit) (0, ()) H fun x H next => ∀ _g : Env, base_SameInts_l4 a0a a0n a0c b1a b1n b1c x.1 H next R)
theorem base_SameInts_eq (a0a : Option Addr) (a0n : Nat) (a0c : Nat) (b1a : Option Addr) (b1n : Nat) (b1c : Nat) (H : Heap) (R : Value → Heap → Prop) : base_SameInts_p a0a a0n a0c b1a b1n b1c H R = CodeW Try.prog plan_base_SameInts (bodyOf Try.f42) (env0 [(Value.slice a0a a0n a0c), (Value.slice b1a b1n b1c)]) H (RetW Try.prog Try.f42.results.toList R) := by kernel_rfl
theorem base_SameInts_sh (a0a : Option Addr) (a0n : Nat) (a0c : Nat) (b1a : Option Addr) (b1n : Nat) (b1c : Nat) {H : Heap} {R : Value → Heap → Prop} (h : base_SameInts_p a0a a0n a0c b1a b1n b1c H R) : FnW Try.prog f_base_SameInts ⟨[(Value.slice a0a a0n a0c), (Value.slice b1a b1n b1c)]⟩ H R := FnW.of_code k_base_SameInts rfl (Eq.mp (base_SameInts_eq a0a a0n a0c b1a b1n b1c H R) h)
def plan_ref03_Ring_Slots : Plan := ⟨[], [(3, [4], [.int .i64], [0, 3]), (7, [5], [.int .i64], [0, 3])]⟩
theorem k_ref03_Ring_Slots : Known Try.prog f_ref03_Ring_Slots Try.f43 plan_ref03_Ring_Slots (bodyOf Try.f43) := ⟨Try.func43, by kernel_rfl, by kernel_rfl, by kernel_rfl, by kernel_rfl, by kernel_rfl⟩
def ref03_Ring_Slots_l7 (r0b : Nat) (x10a : Option Addr) (x10n : Nat) (x10c : Nat) (next3 : (Int × Unit) → Heap → Prop) (i5 : Int) (H4 : Heap) (next7 : (Int × Unit) → Heap → Prop) (R : Value → Heap → Prop) : Prop :=
 ∃ x39 : Int, H4.cell ⟨r0b, 3, none⟩ = some (Value.int .i64 x39) ∧
 IfB (decide ((i5 : Int) < x39))
 (∃ x48 : Int, H4.cell ⟨r0b, 0, none⟩ = some (Value.int .i64 x48) ∧
 (x48 : Int) ≠ 0 ∧
 NilP x10a fun x50q =>
 InB (Int.tmod i5 x48) x10n fun x50i =>
 elemAt x50q x50i 1 fun x50p =>
 StCell H4 x50p (Value.int .i64 1) fun H5 =>
 next7 ((IntKind.wrap .i64 (i5 + 1)), ()) H5)
 (R (Value.slice x10a x10n x10c) H4)
def ref03_Ring_Slots_l3 (r0b : Nat) (x10a : Option Addr) (x10n : Nat) (x10c : Nat) (i4 : Int) (H2 : Heap) (next3 : (Int × Unit) → Heap → Prop) (R : Value → Heap → Prop) : Prop :=
 ∃ x19 : Int, H2.cell ⟨r0b, 4, none⟩ = some (Value.int .i64 x19) ∧
 IfB (decide ((i4 : Int) < x19))
 (∃ x28 : Int, H2.cell ⟨r0b, 0, none⟩ = some (Value.int .i64 x28) ∧
 (x28 : Int) ≠ 0 ∧
 NilP x10a fun x30q =>
 InB (Int.tmod i4 x28) x10n fun x30i =>
 elemAt x30q x30i 1 fun x30p =>
 StCell H2 x30p (Value.int .i64 2) fun H3 =>
 next3 ((IntKind.wrap .i64 (i4 + 1)), ()) H3)
 (∃ x34 : Int, H2.cell ⟨r0b, 4, none⟩ = some (Value.int .i64 x34) ∧
 LoopI (Int × Unit) (x34, ()) H2 fun x H next => ∀ _g : Env, ref03_Ring_Slots_l7 r0b x10a x10n x10c next3 x.1 H next R)
def ref03_Ring_Slots_p (r0b : Nat) (H : Heap) (R : Value → Heap → Prop) : Prop :=
 ∃ x9 : Int, H.cell ⟨r0b, 0, none⟩ = some (Value.int .i64 x9) ∧
 MakeW Try.prog T_sl_int (Value.int .i64 x9) (Value.int .i64 x9) H fun x10v H1 =>
 ∃ (x10a : Option Addr) (x10n x10c : Nat), x10v = (Value.slice x10a x10n x10c) ∧
 ∃ x14 : Int, H1.cell ⟨r0b, 5, none⟩ = some (Value.int .i64 x14) ∧
 LoopI (Int × Unit) (x14, ()) H1 fun x H next => ∀ _g : Env, ref03_Ring_Slots_l3 r0b x10a x10n x10c x.1 H next R
theorem ref03_Ring_Slots_eq (r0b : Nat) (H : Heap) (R : Value → Heap → Prop) : ref03_Ring_Slots_p r0b H R = CodeW Try.prog plan_ref03_Ring_Slots (bodyOf Try.f43) (env0 [(Value.pointer (some ⟨r0b, 0, none⟩))]) H (RetW Try.prog Try.f43.results.toList R) := by kernel_rfl
theorem ref03_Ring_Slots_sh (r0b : Nat) {H : Heap} {R : Value → Heap → Prop} (h : ref03_Ring_Slots_p r0b H R) : FnW Try.prog f_ref03_Ring_Slots ⟨[(Value.pointer (some ⟨r0b, 0, none⟩))]⟩ H R := FnW.of_code k_ref03_Ring_Slots rfl (Eq.mp (ref03_Ring_Slots_eq r0b H R) h)
def plan_pool_Pool_is : Plan := ⟨[], []⟩
theorem k_pool_Pool_is : Known Try.prog f_pool_Pool_is Try.f44 plan_pool_Pool_is (bodyOf Try.f44) := ⟨Try.func44, by kernel_rfl, by kernel_rfl, by kernel_rfl, by kernel_rfl, by kernel_rfl⟩
def pool_Pool_is_p (p0b : Nat) (H : Heap) (R : Value → Heap → Prop) : Prop :=
 ∃ (x9a : Option Addr) (x9n x9c : Nat), H.cell ⟨p0b, 0, none⟩ = some (Value.slice x9a x9n x9c) ∧
 R (Value.bool (!x9a.isNone)) H
theorem pool_Pool_is_eq (p0b : Nat) (H : Heap) (R : Value → Heap → Prop) : pool_Pool_is_p p0b H R = CodeW Try.prog plan_pool_Pool_is (bodyOf Try.f44) (env0 [(Value.pointer (some ⟨p0b, 0, none⟩))]) H (RetW Try.prog Try.f44.results.toList R) := by kernel_rfl
theorem pool_Pool_is_sh (p0b : Nat) {H : Heap} {R : Value → Heap → Prop} (h : pool_Pool_is_p p0b H R) : FnW Try.prog f_pool_Pool_is ⟨[(Value.pointer (some ⟨p0b, 0, none⟩))]⟩ H R := FnW.of_code k_pool_Pool_is rfl (Eq.mp (pool_Pool_is_eq p0b H R) h)
def pool_Pool_is_nil_p (H : Heap) (R : Value → Heap → Prop) : Prop :=
 R (Value.bool false) H
theorem pool_Pool_is_nil_eq  (H : Heap) (R : Value → Heap → Prop) : pool_Pool_is_nil_p  H R = CodeW Try.prog plan_pool_Pool_is (bodyOf Try.f44) (env0 [(Value.pointer none)]) H (RetW Try.prog Try.f44.results.toList R) := by kernel_rfl
theorem pool_Pool_is_nil_sh  {H : Heap} {R : Value → Heap → Prop} (h : pool_Pool_is_nil_p  H R) : FnW Try.prog f_pool_Pool_is ⟨[(Value.pointer none)]⟩ H R := FnW.of_code k_pool_Pool_is rfl (Eq.mp (pool_Pool_is_nil_eq  H R) h)
def plan_pool_buffer_fill : Plan := ⟨[], []⟩
theorem k_pool_buffer_fill : Known Try.prog f_pool_buffer_fill Try.f45 plan_pool_buffer_fill (bodyOf Try.f45) := ⟨Try.func45, by kernel_rfl, by kernel_rfl, by kernel_rfl, by kernel_rfl, by kernel_rfl⟩
def pool_buffer_fill_p (b0b : Nat) (b0o : Nat) (x1a : Option Addr) (x1n : Nat) (x1c : Nat) (H : Heap) (R : Value → Heap → Prop) : Prop :=
 CopyW Try.prog #[T_sl_uint8, T_sl_uint8] T_int [(Value.slice (some ⟨b0b, b0o + 2, none⟩) 1514 1514), (Value.slice x1a x1n x1c)] H fun x10v H1 =>
 ∃ x10 : Int, x10v = (Value.int .i64 x10) ∧
 StCell H1 ⟨b0b, b0o + 1, none⟩ (Value.int .i64 x10) fun H2 =>
 R (Value.tuple ⟨[]⟩) H2
theorem pool_buffer_fill_eq (b0b : Nat) (b0o : Nat) (x1a : Option Addr) (x1n : Nat) (x1c : Nat) (H : Heap) (R : Value → Heap → Prop) : pool_buffer_fill_p b0b b0o x1a x1n x1c H R = CodeW Try.prog plan_pool_buffer_fill (bodyOf Try.f45) (env0 [(Value.pointer (some ⟨b0b, b0o, none⟩)), (Value.slice x1a x1n x1c)]) H (RetW Try.prog Try.f45.results.toList R) := by kernel_rfl
theorem pool_buffer_fill_sh (b0b : Nat) (b0o : Nat) (x1a : Option Addr) (x1n : Nat) (x1c : Nat) {H : Heap} {R : Value → Heap → Prop} (h : pool_buffer_fill_p b0b b0o x1a x1n x1c H R) : FnW Try.prog f_pool_buffer_fill ⟨[(Value.pointer (some ⟨b0b, b0o, none⟩)), (Value.slice x1a x1n x1c)]⟩ H R := FnW.of_code k_pool_buffer_fill rfl (Eq.mp (pool_buffer_fill_eq b0b b0o x1a x1n x1c H R) h)
def plan_pool_Pool_find : Plan := ⟨[], []⟩
theorem k_pool_Pool_find : Known Try.prog f_pool_Pool_find Try.f46 plan_pool_Pool_find (bodyOf Try.f46) := ⟨Try.func46, by kernel_rfl, by kernel_rfl, by kernel_rfl, by kernel_rfl, by kernel_rfl⟩
def pool_Pool_find_j1 (p0b : Nat) (h3b : Nat) (x24 : Bool) (H4 : Heap) (R : Value → Heap → Prop) : Prop :=
 IfB x24
 (R (Value.tuple ⟨[(Value.pointer none), (Value.int .i64 5)]⟩) H4)
 (∃ (x45a : Option Addr) (x45n x45c : Nat), H4.cell ⟨p0b, 0, none⟩ = some (Value.slice x45a x45n x45c) ∧
 ∃ x47 : Int, H4.cell ⟨h3b, 0, none⟩ = some (Value.int .i64 x47) ∧
 NilP x45a fun x48q =>
 InB x47 x45n fun x48i =>
 elemAt x48q x48i 1516 fun x48p =>
 R (Value.tuple ⟨[(Value.pointer (some x48p)), (Value.int .i64 0)]⟩) H4)
def pool_Pool_find_j0 (p0b : Nat) (h3b : Nat) (x10 : Bool) (H3 : Heap) (R : Value → Heap → Prop) : Prop :=
 IfB x10
 (R (Value.tuple ⟨[(Value.pointer none), (Value.int .i64 2)]⟩) H3)
 (∃ x26 : Int, H3.cell ⟨h3b, 1, none⟩ = some (Value.int .i64 x26) ∧
 IfB (decide ((x26 : Int) < 1))
 (pool_Pool_find_j1 p0b h3b true H3 R)
 (∃ (x32a : Option Addr) (x32n x32c : Nat), H3.cell ⟨p0b, 0, none⟩ = some (Value.slice x32a x32n x32c) ∧
 ∃ x34 : Int, H3.cell ⟨h3b, 0, none⟩ = some (Value.int .i64 x34) ∧
 NilP x32a fun x35q =>
 InB x34 x32n fun x35i =>
 elemAt x35q x35i 1516 fun x35p =>
 ∃ x37 : Int, H3.cell x35p = some (Value.int .i64 x37) ∧
 ∃ x39 : Int, H3.cell ⟨h3b, 1, none⟩ = some (Value.int .i64 x39) ∧
 pool_Pool_find_j1 p0b h3b ((x37 : Int) != x39) H3 R))
def pool_Pool_find_p (p0b : Nat) (h1c0 : Int) (h1c1 : Int) (H : Heap) (R : Value → Heap → Prop) : Prop :=
 NewW H (Obj.cells ⟨[(Value.int .i64 h1c0), (Value.int .i64 h1c1)]⟩ T_pool_Handle) fun h3b H1 =>
 FnW Try.prog f_pool_Pool_is ⟨[(Value.pointer (some ⟨p0b, 0, none⟩))]⟩ H1 fun x8v H2 =>
 ∃ x8 : Bool, x8v = (Value.bool x8) ∧
 IfB (!x8)
 (R (Value.tuple ⟨[(Value.pointer none), (Value.int .i64 1)]⟩) H2)
 (∃ x12 : Int, H2.cell ⟨h3b, 0, none⟩ = some (Value.int .i64 x12) ∧
 IfB (decide ((x12 : Int) < 0))
 (pool_Pool_find_j0 p0b h3b true H2 R)
 (∃ x16 : Int, H2.cell ⟨h3b, 0, none⟩ = some (Value.int .i64 x16) ∧
 ∃ (x20a : Option Addr) (x20n x20c : Nat), H2.cell ⟨p0b, 0, none⟩ = some (Value.slice x20a x20n x20c) ∧
 pool_Pool_find_j0 p0b h3b (decide ((x16 : Int) ≥ (x20n : Int))) H2 R))
theorem pool_Pool_find_eq (p0b : Nat) (h1c0 : Int) (h1c1 : Int) (H : Heap) (R : Value → Heap → Prop) : pool_Pool_find_p p0b h1c0 h1c1 H R = CodeW Try.prog plan_pool_Pool_find (bodyOf Try.f46) (env0 [(Value.pointer (some ⟨p0b, 0, none⟩)), (Value.agg ⟨[(Value.int .i64 h1c0), (Value.int .i64 h1c1)]⟩)]) H (RetW Try.prog Try.f46.results.toList R) := by kernel_rfl
theorem pool_Pool_find_sh (p0b : Nat) (h1c0 : Int) (h1c1 : Int) {H : Heap} {R : Value → Heap → Prop} (h : pool_Pool_find_p p0b h1c0 h1c1 H R) : FnW Try.prog f_pool_Pool_find ⟨[(Value.pointer (some ⟨p0b, 0, none⟩)), (Value.agg ⟨[(Value.int .i64 h1c0), (Value.int .i64 h1c1)]⟩)]⟩ H R := FnW.of_code k_pool_Pool_find rfl (Eq.mp (pool_Pool_find_eq p0b h1c0 h1c1 H R) h)
def pool_Pool_find_nil_p (h1c0 : Int) (h1c1 : Int) (H : Heap) (R : Value → Heap → Prop) : Prop :=
 NewW H (Obj.cells ⟨[(Value.int .i64 h1c0), (Value.int .i64 h1c1)]⟩ T_pool_Handle) fun h3b H1 =>
 FnW Try.prog f_pool_Pool_is ⟨[(Value.pointer none)]⟩ H1 fun x8v H2 =>
 ∃ x8 : Bool, x8v = (Value.bool x8) ∧
 IfB (!x8)
 (R (Value.tuple ⟨[(Value.pointer none), (Value.int .i64 1)]⟩) H2)
 (∃ x12 : Int, H2.cell ⟨h3b, 0, none⟩ = some (Value.int .i64 x12) ∧
 IfB (decide ((x12 : Int) < 0))
 (R (Value.tuple ⟨[(Value.pointer none), (Value.int .i64 2)]⟩) H2)
 (∃ x16 : Int, H2.cell ⟨h3b, 0, none⟩ = some (Value.int .i64 x16) ∧
 False))
theorem pool_Pool_find_nil_eq (h1c0 : Int) (h1c1 : Int) (H : Heap) (R : Value → Heap → Prop) : pool_Pool_find_nil_p h1c0 h1c1 H R = CodeW Try.prog plan_pool_Pool_find (bodyOf Try.f46) (env0 [(Value.pointer none), (Value.agg ⟨[(Value.int .i64 h1c0), (Value.int .i64 h1c1)]⟩)]) H (RetW Try.prog Try.f46.results.toList R) := by kernel_rfl
theorem pool_Pool_find_nil_sh (h1c0 : Int) (h1c1 : Int) {H : Heap} {R : Value → Heap → Prop} (h : pool_Pool_find_nil_p h1c0 h1c1 H R) : FnW Try.prog f_pool_Pool_find ⟨[(Value.pointer none), (Value.agg ⟨[(Value.int .i64 h1c0), (Value.int .i64 h1c1)]⟩)]⟩ H R := FnW.of_code k_pool_Pool_find rfl (Eq.mp (pool_Pool_find_nil_eq h1c0 h1c1 H R) h)
def plan_ref02_Pool_Lent : Plan := ⟨[], [(3, [3, 4], [.slice, .int .i64], [0])]⟩
theorem k_ref02_Pool_Lent : Known Try.prog f_ref02_Pool_Lent Try.f47 plan_ref02_Pool_Lent (bodyOf Try.f47) := ⟨Try.func47, by kernel_rfl, by kernel_rfl, by kernel_rfl, by kernel_rfl, by kernel_rfl⟩
def ref02_Pool_Lent_j0 (p0b : Nat) (i4 : Int) (next3 : ((Option Addr × Nat × Nat) × Int × Unit) → Heap → Prop) (out3a_1 : Option Addr) (out3n_1 : Nat) (out3c_1 : Nat) (H5 : Heap) (R : Value → Heap → Prop) : Prop :=
 next3 ((out3a_1, out3n_1, out3c_1), ((IntKind.wrap .i64 (i4 + 1)), ())) H5
def ref02_Pool_Lent_l3 (p0b : Nat) (out3a : Option Addr) (out3n : Nat) (out3c : Nat) (i4 : Int) (H2 : Heap) (next3 : ((Option Addr × Nat × Nat) × Int × Unit) → Heap → Prop) (R : Value → Heap → Prop) : Prop :=
 ∃ (x10a : Option Addr) (x10n x10c : Nat), H2.cell ⟨p0b, 0, none⟩ = some (Value.slice x10a x10n x10c) ∧
 IfB (decide ((i4 : Int) < (x10n : Int)))
 (∃ (x18a : Option Addr) (x18n x18c : Nat), H2.cell ⟨p0b, 0, none⟩ = some (Value.slice x18a x18n x18c) ∧
 NilP x18a fun x20q =>
 InB i4 x18n fun x20i =>
 elemAt x20q x20i 2 fun x20p =>
 ∃ x22 : Int, H2.cell x20p = some (Value.int .i64 x22) ∧
 IfB (decide ((x22 : Int) > 0))
 (∃ (x29a : Option Addr) (x29n x29c : Nat), H2.cell ⟨p0b, 0, none⟩ = some (Value.slice x29a x29n x29c) ∧
 NilP x29a fun x31q =>
 InB i4 x29n fun x31i =>
 elemAt x31q x31i 2 fun x31p =>
 ∃ x33 : Int, H2.cell x31p = some (Value.int .i64 x33) ∧
 NewW H2 (Obj.cells ⟨[(Value.int .i64 i4), (Value.int .i64 x33)]⟩ T_ref02_Handle) fun x35b H3 =>
 AppW Try.prog #[T_sl_pointsmanref02_Handle, T_sl_pointsmanref02_Handle] T_sl_pointsmanref02_Handle [(Value.slice out3a out3n out3c), (Value.slice (some ⟨x35b, 0, none⟩) 1 1)] H3 fun x36v H4 =>
 ∃ (x36a : Option Addr) (x36n x36c : Nat), x36v = (Value.slice x36a x36n x36c) ∧
 ref02_Pool_Lent_j0 p0b i4 next3 x36a x36n x36c H4 R)
 (ref02_Pool_Lent_j0 p0b i4 next3 out3a out3n out3c H2 R))
 (R (Value.slice out3a out3n out3c) H2)
def ref02_Pool_Lent_p (p0b : Nat) (H : Heap) (R : Value → Heap → Prop) : Prop :=
 NewW H (Obj.cells ⟨[]⟩ T_ref02_Handle) fun x5b H1 =>
 LoopI ((Option Addr × Nat × Nat) × Int × Unit) (((some ⟨x5b, 0, none⟩), 0, 0), (0, ())) H1 fun x H next => ∀ _g : Env, ref02_Pool_Lent_l3 p0b x.1.1 x.1.2.1 x.1.2.2 x.2.1 H next R
theorem ref02_Pool_Lent_eq (p0b : Nat) (H : Heap) (R : Value → Heap → Prop) : ref02_Pool_Lent_p p0b H R = CodeW Try.prog plan_ref02_Pool_Lent (bodyOf Try.f47) (env0 [(Value.pointer (some ⟨p0b, 0, none⟩))]) H (RetW Try.prog Try.f47.results.toList R) := by kernel_rfl
theorem ref02_Pool_Lent_sh (p0b : Nat) {H : Heap} {R : Value → Heap → Prop} (h : ref02_Pool_Lent_p p0b H R) : FnW Try.prog f_ref02_Pool_Lent ⟨[(Value.pointer (some ⟨p0b, 0, none⟩))]⟩ H R := FnW.of_code k_ref02_Pool_Lent rfl (Eq.mp (ref02_Pool_Lent_eq p0b H R) h)
def plan_ref02_Pool_find : Plan := ⟨[], []⟩
theorem k_ref02_Pool_find : Known Try.prog f_ref02_Pool_find Try.f48 plan_ref02_Pool_find (bodyOf Try.f48) := ⟨Try.func48, by kernel_rfl, by kernel_rfl, by kernel_rfl, by kernel_rfl, by kernel_rfl⟩
def ref02_Pool_find_j1 (x34 : Bool) (H3 : Heap) (R : Value → Heap → Prop) : Prop :=
 IfB x34
 (R (Value.int .i64 5) H3)
 (R (Value.int .i64 0) H3)
def ref02_Pool_find_j0 (p0b : Nat) (h3b : Nat) (x17 : Bool) (H2 : Heap) (R : Value → Heap → Prop) : Prop :=
 IfB x17
 (R (Value.int .i64 2) H2)
 (∃ x19 : Int, H2.cell ⟨h3b, 1, none⟩ = some (Value.int .i64 x19) ∧
 IfB (decide ((x19 : Int) < 1))
 (ref02_Pool_find_j1 true H2 R)
 (∃ (x25a : Option Addr) (x25n x25c : Nat), H2.cell ⟨p0b, 0, none⟩ = some (Value.slice x25a x25n x25c) ∧
 ∃ x27 : Int, H2.cell ⟨h3b, 0, none⟩ = some (Value.int .i64 x27) ∧
 NilP x25a fun x28q =>
 InB x27 x25n fun x28i =>
 elemAt x28q x28i 2 fun x28p =>
 ∃ x30 : Int, H2.cell x28p = some (Value.int .i64 x30) ∧
 ∃ x32 : Int, H2.cell ⟨h3b, 1, none⟩ = some (Value.int .i64 x32) ∧
 ref02_Pool_find_j1 ((x30 : Int) != x32) H2 R))
def ref02_Pool_find_p (p0b : Nat) (h1c0 : Int) (h1c1 : Int) (H : Heap) (R : Value → Heap → Prop) : Prop :=
 NewW H (Obj.cells ⟨[(Value.int .i64 h1c0), (Value.int .i64 h1c1)]⟩ T_ref02_Handle) fun h3b H1 =>
 ∃ x6 : Int, H1.cell ⟨h3b, 0, none⟩ = some (Value.int .i64 x6) ∧
 IfB (decide ((x6 : Int) < 0))
 (ref02_Pool_find_j0 p0b h3b true H1 R)
 (∃ x10 : Int, H1.cell ⟨h3b, 0, none⟩ = some (Value.int .i64 x10) ∧
 ∃ (x14a : Option Addr) (x14n x14c : Nat), H1.cell ⟨p0b, 0, none⟩ = some (Value.slice x14a x14n x14c) ∧
 ref02_Pool_find_j0 p0b h3b (decide ((x10 : Int) ≥ (x14n : Int))) H1 R)
theorem ref02_Pool_find_eq (p0b : Nat) (h1c0 : Int) (h1c1 : Int) (H : Heap) (R : Value → Heap → Prop) : ref02_Pool_find_p p0b h1c0 h1c1 H R = CodeW Try.prog plan_ref02_Pool_find (bodyOf Try.f48) (env0 [(Value.pointer (some ⟨p0b, 0, none⟩)), (Value.agg ⟨[(Value.int .i64 h1c0), (Value.int .i64 h1c1)]⟩)]) H (RetW Try.prog Try.f48.results.toList R) := by kernel_rfl
theorem ref02_Pool_find_sh (p0b : Nat) (h1c0 : Int) (h1c1 : Int) {H : Heap} {R : Value → Heap → Prop} (h : ref02_Pool_find_p p0b h1c0 h1c1 H R) : FnW Try.prog f_ref02_Pool_find ⟨[(Value.pointer (some ⟨p0b, 0, none⟩)), (Value.agg ⟨[(Value.int .i64 h1c0), (Value.int .i64 h1c1)]⟩)]⟩ H R := FnW.of_code k_ref02_Pool_find rfl (Eq.mp (ref02_Pool_find_eq p0b h1c0 h1c1 H R) h)
def plan_ref02_Pool_Read : Plan := ⟨[], []⟩
theorem k_ref02_Pool_Read : Known Try.prog f_ref02_Pool_Read Try.f49 plan_ref02_Pool_Read (bodyOf Try.f49) := ⟨Try.func49, by kernel_rfl, by kernel_rfl, by kernel_rfl, by kernel_rfl, by kernel_rfl⟩
def ref02_Pool_Read_p (p0b : Nat) (h1c0 : Int) (h1c1 : Int) (H : Heap) (R : Value → Heap → Prop) : Prop :=
 NewW H (Obj.cells ⟨[(Value.int .i64 h1c0), (Value.int .i64 h1c1)]⟩ T_ref02_Handle) fun h3b H1 =>
 ∃ x8c0 : Int, H1.cell ⟨h3b, 0, none⟩ = some (Value.int .i64 x8c0) ∧ ∃ x8c1 : Int, H1.cell ⟨h3b, 1, none⟩ = some (Value.int .i64 x8c1) ∧ FnW Try.prog f_ref02_Pool_find ⟨[(Value.pointer (some ⟨p0b, 0, none⟩)), (Value.agg ⟨[(Value.int .i64 x8c0), (Value.int .i64 x8c1)]⟩)]⟩ H1 fun x9v H2 =>
 ∃ x9 : Int, x9v = (Value.int .i64 x9) ∧
 IfB ((x9 : Int) != 0)
 (R (Value.tuple ⟨[(Value.slice none 0 0), (Value.int .i64 x9)]⟩) H2)
 (NewW H2 (Obj.cells ⟨[]⟩ T_uint8) fun x13b H3 =>
 ∃ (x17a : Option Addr) (x17n x17c : Nat), H3.cell ⟨p0b, 0, none⟩ = some (Value.slice x17a x17n x17c) ∧
 ∃ x19 : Int, H3.cell ⟨h3b, 0, none⟩ = some (Value.int .i64 x19) ∧
 NilP x17a fun x20q =>
 InB x19 x17n fun x20i =>
 elemAt x20q x20i 2 fun x20p =>
 ∃ (x22a : Option Addr) (x22n x22c : Nat), H3.cell ⟨x20p.block, x20p.off + 1, none⟩ = some (Value.slice x22a x22n x22c) ∧
 AppW Try.prog #[T_sl_uint8, T_sl_uint8] T_sl_uint8 [(Value.slice (some ⟨x13b, 0, none⟩) 0 0), (Value.slice x22a x22n x22c)] H3 fun x23v H4 =>
 ∃ (x23a : Option Addr) (x23n x23c : Nat), x23v = (Value.slice x23a x23n x23c) ∧
 R (Value.tuple ⟨[(Value.slice x23a x23n x23c), (Value.int .i64 0)]⟩) H4)
theorem ref02_Pool_Read_eq (p0b : Nat) (h1c0 : Int) (h1c1 : Int) (H : Heap) (R : Value → Heap → Prop) : ref02_Pool_Read_p p0b h1c0 h1c1 H R = CodeW Try.prog plan_ref02_Pool_Read (bodyOf Try.f49) (env0 [(Value.pointer (some ⟨p0b, 0, none⟩)), (Value.agg ⟨[(Value.int .i64 h1c0), (Value.int .i64 h1c1)]⟩)]) H (RetW Try.prog Try.f49.results.toList R) := by kernel_rfl
theorem ref02_Pool_Read_sh (p0b : Nat) (h1c0 : Int) (h1c1 : Int) {H : Heap} {R : Value → Heap → Prop} (h : ref02_Pool_Read_p p0b h1c0 h1c1 H R) : FnW Try.prog f_ref02_Pool_Read ⟨[(Value.pointer (some ⟨p0b, 0, none⟩)), (Value.agg ⟨[(Value.int .i64 h1c0), (Value.int .i64 h1c1)]⟩)]⟩ H R := FnW.of_code k_ref02_Pool_Read rfl (Eq.mp (ref02_Pool_Read_eq p0b h1c0 h1c1 H R) h)
def plan_ref02_Pool_Write : Plan := ⟨[(6, [0, 1, 2, 3, 4, 5, 6, 7, 8, 9, 10, 11], [20, 22])], []⟩
theorem k_ref02_Pool_Write : Known Try.prog f_ref02_Pool_Write Try.f50 plan_ref02_Pool_Write (bodyOf Try.f50) := ⟨Try.func50, by kernel_rfl, by kernel_rfl, by kernel_rfl, by kernel_rfl, by kernel_rfl⟩
def ref02_Pool_Write_p (p0b : Nat) (h1c0 : Int) (h1c1 : Int) (b2a : Option Addr) (b2n : Nat) (b2c : Nat) (H : Heap) (R : Value → Heap → Prop) : Prop :=
 NewW H (Obj.cells ⟨[(Value.int .i64 h1c0), (Value.int .i64 h1c1)]⟩ T_ref02_Handle) fun h4b H1 =>
 ∃ x9c0 : Int, H1.cell ⟨h4b, 0, none⟩ = some (Value.int .i64 x9c0) ∧ ∃ x9c1 : Int, H1.cell ⟨h4b, 1, none⟩ = some (Value.int .i64 x9c1) ∧ FnW Try.prog f_ref02_Pool_find ⟨[(Value.pointer (some ⟨p0b, 0, none⟩)), (Value.agg ⟨[(Value.int .i64 x9c0), (Value.int .i64 x9c1)]⟩)]⟩ H1 fun x10v H2 =>
 ∃ x10 : Int, x10v = (Value.int .i64 x10) ∧
 IfB ((x10 : Int) != 0)
 (R (Value.int .i64 x10) H2)
 (IfB (decide (((b2n : Int) : Int) > 1514))
 (R (Value.int .i64 3) H2)
 (∃ bs : List Nat, (∀ b ∈ bs, ∃ o, H2 b = some o) ∧
 p0b ∈ bs ∧ ∃ (x20a : Option Addr) (x20n x20c : Nat), H2.cell ⟨p0b, 0, none⟩ = some (Value.slice x20a x20n x20c) ∧
 h4b ∈ bs ∧ ∃ x22 : Int, H2.cell ⟨h4b, 0, none⟩ = some (Value.int .i64 x22) ∧
 NewW H2 (Obj.cells ⟨[]⟩ T_uint8) fun x23b H3 =>
 AppW Try.prog #[T_sl_uint8, T_sl_uint8] T_sl_uint8 [(Value.slice (some ⟨x23b, 0, none⟩) 0 0), (Value.slice b2a b2n b2c)] H3 fun x25v H4 =>
 ∃ (x25a : Option Addr) (x25n x25c : Nat), x25v = (Value.slice x25a x25n x25c) ∧
 KeptIn bs H2 H4 ∧ NilP x20a fun x26q =>
 InB x22 x20n fun x26i =>
 elemAt x26q x26i 2 fun x26p =>
 StCell H4 ⟨x26p.block, x26p.off + 1, none⟩ (Value.slice x25a x25n x25c) fun H5 =>
 KeptIn bs H2 H5 ∧ R (Value.int .i64 0) H5))
theorem ref02_Pool_Write_eq (p0b : Nat) (h1c0 : Int) (h1c1 : Int) (b2a : Option Addr) (b2n : Nat) (b2c : Nat) (H : Heap) (R : Value → Heap → Prop) : ref02_Pool_Write_p p0b h1c0 h1c1 b2a b2n b2c H R = CodeW Try.prog plan_ref02_Pool_Write (bodyOf Try.f50) (env0 [(Value.pointer (some ⟨p0b, 0, none⟩)), (Value.agg ⟨[(Value.int .i64 h1c0), (Value.int .i64 h1c1)]⟩), (Value.slice b2a b2n b2c)]) H (RetW Try.prog Try.f50.results.toList R) := by kernel_rfl
theorem ref02_Pool_Write_sh (p0b : Nat) (h1c0 : Int) (h1c1 : Int) (b2a : Option Addr) (b2n : Nat) (b2c : Nat) {H : Heap} {R : Value → Heap → Prop} (h : ref02_Pool_Write_p p0b h1c0 h1c1 b2a b2n b2c H R) : FnW Try.prog f_ref02_Pool_Write ⟨[(Value.pointer (some ⟨p0b, 0, none⟩)), (Value.agg ⟨[(Value.int .i64 h1c0), (Value.int .i64 h1c1)]⟩), (Value.slice b2a b2n b2c)]⟩ H R := FnW.of_code k_ref02_Pool_Write rfl (Eq.mp (ref02_Pool_Write_eq p0b h1c0 h1c1 b2a b2n b2c H R) h)
def plan_ring_Ring_is : Plan := ⟨[], []⟩
theorem k_ring_Ring_is : Known Try.prog f_ring_Ring_is Try.f51 plan_ring_Ring_is (bodyOf Try.f51) := ⟨Try.func51, by kernel_rfl, by kernel_rfl, by kernel_rfl, by kernel_rfl, by kernel_rfl⟩
def ring_Ring_is_p (r0b : Nat) (H : Heap) (R : Value → Heap → Prop) : Prop :=
 ∃ x9 : Int, H.cell ⟨r0b, 192, none⟩ = some (Value.int .i64 x9) ∧
 R (Value.bool (decide ((x9 : Int) > 0))) H
theorem ring_Ring_is_eq (r0b : Nat) (H : Heap) (R : Value → Heap → Prop) : ring_Ring_is_p r0b H R = CodeW Try.prog plan_ring_Ring_is (bodyOf Try.f51) (env0 [(Value.pointer (some ⟨r0b, 0, none⟩))]) H (RetW Try.prog Try.f51.results.toList R) := by kernel_rfl
theorem ring_Ring_is_sh (r0b : Nat) {H : Heap} {R : Value → Heap → Prop} (h : ring_Ring_is_p r0b H R) : FnW Try.prog f_ring_Ring_is ⟨[(Value.pointer (some ⟨r0b, 0, none⟩))]⟩ H R := FnW.of_code k_ring_Ring_is rfl (Eq.mp (ring_Ring_is_eq r0b H R) h)
def ring_Ring_is_nil_p (H : Heap) (R : Value → Heap → Prop) : Prop :=
 R (Value.bool false) H
theorem ring_Ring_is_nil_eq  (H : Heap) (R : Value → Heap → Prop) : ring_Ring_is_nil_p  H R = CodeW Try.prog plan_ring_Ring_is (bodyOf Try.f51) (env0 [(Value.pointer none)]) H (RetW Try.prog Try.f51.results.toList R) := by kernel_rfl
theorem ring_Ring_is_nil_sh  {H : Heap} {R : Value → Heap → Prop} (h : ring_Ring_is_nil_p  H R) : FnW Try.prog f_ring_Ring_is ⟨[(Value.pointer none)]⟩ H R := FnW.of_code k_ring_Ring_is rfl (Eq.mp (ring_Ring_is_nil_eq  H R) h)
def plan_ring_Ring_turn : Plan := ⟨[], []⟩
theorem k_ring_Ring_turn : Known Try.prog f_ring_Ring_turn Try.f52 plan_ring_Ring_turn (bodyOf Try.f52) := ⟨Try.func52, by kernel_rfl, by kernel_rfl, by kernel_rfl, by kernel_rfl, by kernel_rfl⟩
def ring_Ring_turn_p (r0b : Nat) (at1b : Nat) (at1o : Nat) (from2 : Int) (to3 : Int) (H : Heap) (R : Value → Heap → Prop) : Prop :=
 ∃ x14 : Int, H.cell ⟨at1b, at1o, none⟩ = some (Value.int .i64 x14) ∧
 InB x14 64 fun x17i =>
 ∃ x21 : Int, H.cell ⟨r0b, 0 + x17i * 3, none⟩ = some (Value.int .i64 x21) ∧
 IfB ((x21 : Int) != from2)
 (R (Value.tuple ⟨[(Value.pointer none), (Value.bool false)]⟩) H)
 (StCell H ⟨r0b, 0 + x17i * 3, none⟩ (Value.int .i64 to3) fun H1 =>
 InB from2 3 fun x32i =>
 ∃ x33 : Int, H1.cell ⟨r0b, 196 + x32i * 1, none⟩ = some (Value.int .i64 x33) ∧
 InB from2 3 fun x37i =>
 StCell H1 ⟨r0b, 196 + x37i * 1, none⟩ (Value.int .i64 (IntKind.wrap .i64 (x33 - 1))) fun H2 =>
 InB to3 3 fun x42i =>
 ∃ x43 : Int, H2.cell ⟨r0b, 196 + x42i * 1, none⟩ = some (Value.int .i64 x43) ∧
 InB to3 3 fun x47i =>
 StCell H2 ⟨r0b, 196 + x47i * 1, none⟩ (Value.int .i64 (IntKind.wrap .i64 (x43 + 1))) fun H3 =>
 ∃ x51 : Int, H3.cell ⟨at1b, at1o, none⟩ = some (Value.int .i64 x51) ∧
 ∃ x56 : Int, H3.cell ⟨r0b, 192, none⟩ = some (Value.int .i64 x56) ∧
 (x56 : Int) ≠ 0 ∧
 StCell H3 ⟨at1b, at1o, none⟩ (Value.int .i64 (Int.tmod (IntKind.wrap .i64 (x51 + 1)) x56)) fun H4 =>
 R (Value.tuple ⟨[(Value.pointer (some ⟨r0b, 0 + x17i * 3, none⟩)), (Value.bool true)]⟩) H4)
theorem ring_Ring_turn_eq (r0b : Nat) (at1b : Nat) (at1o : Nat) (from2 : Int) (to3 : Int) (H : Heap) (R : Value → Heap → Prop) : ring_Ring_turn_p r0b at1b at1o from2 to3 H R = CodeW Try.prog plan_ring_Ring_turn (bodyOf Try.f52) (env0 [(Value.pointer (some ⟨r0b, 0, none⟩)), (Value.pointer (some ⟨at1b, at1o, none⟩)), (Value.int .i64 from2), (Value.int .i64 to3)]) H (RetW Try.prog Try.f52.results.toList R) := by kernel_rfl
theorem ring_Ring_turn_sh (r0b : Nat) (at1b : Nat) (at1o : Nat) (from2 : Int) (to3 : Int) {H : Heap} {R : Value → Heap → Prop} (h : ring_Ring_turn_p r0b at1b at1o from2 to3 H R) : FnW Try.prog f_ring_Ring_turn ⟨[(Value.pointer (some ⟨r0b, 0, none⟩)), (Value.pointer (some ⟨at1b, at1o, none⟩)), (Value.int .i64 from2), (Value.int .i64 to3)]⟩ H R := FnW.of_code k_ring_Ring_turn rfl (Eq.mp (ring_Ring_turn_eq r0b at1b at1o from2 to3 H R) h)
def plan_ring_Ring_device : Plan := ⟨[], []⟩
theorem k_ring_Ring_device : Known Try.prog f_ring_Ring_device Try.f53 plan_ring_Ring_device (bodyOf Try.f53) := ⟨Try.func53, by kernel_rfl, by kernel_rfl, by kernel_rfl, by kernel_rfl, by kernel_rfl⟩
def ring_Ring_device_p (r0b : Nat) (H : Heap) (R : Value → Heap → Prop) : Prop :=
 NewW H (Obj.cells ⟨[(Value.int .i64 0), (Value.int .i64 0)]⟩ T_pool_Handle) fun x2b H1 =>
 FnW Try.prog f_ring_Ring_is ⟨[(Value.pointer (some ⟨r0b, 0, none⟩))]⟩ H1 fun x7v H2 =>
 ∃ x7 : Bool, x7v = (Value.bool x7) ∧
 IfB (!x7)
 (StCell H2 ⟨x2b, 0, none⟩ (Value.int .i64 0) fun H3 =>
 StCell H3 ⟨x2b, 1, none⟩ (Value.int .i64 0) fun H4 =>
 ∃ r0c0 : Int, H4.cell ⟨x2b, 0, none⟩ = some (Value.int .i64 r0c0) ∧ ∃ r0c1 : Int, H4.cell ⟨x2b, 1, none⟩ = some (Value.int .i64 r0c1) ∧ R (Value.tuple ⟨[(Value.agg ⟨[(Value.int .i64 r0c0), (Value.int .i64 r0c1)]⟩), (Value.int .i64 1)]⟩) H4)
 (FnW Try.prog f_ring_Ring_turn ⟨[(Value.pointer (some ⟨r0b, 0, none⟩)), (Value.pointer (some ⟨r0b, 194, none⟩)), (Value.int .i64 1), (Value.int .i64 2)]⟩ H2 fun x15v H5 =>
 ∃ x15r0 : Option Addr, ∃ x15r1 : Bool, x15v = (Value.tuple ⟨[(Value.pointer x15r0), (Value.bool x15r1)]⟩) ∧
 IfB (!x15r1)
 (StCell H5 ⟨x2b, 0, none⟩ (Value.int .i64 0) fun H6 =>
 StCell H6 ⟨x2b, 1, none⟩ (Value.int .i64 0) fun H7 =>
 ∃ r0c0_1 : Int, H7.cell ⟨x2b, 0, none⟩ = some (Value.int .i64 r0c0_1) ∧ ∃ r0c1_1 : Int, H7.cell ⟨x2b, 1, none⟩ = some (Value.int .i64 r0c1_1) ∧ R (Value.tuple ⟨[(Value.agg ⟨[(Value.int .i64 r0c0_1), (Value.int .i64 r0c1_1)]⟩), (Value.int .i64 30)]⟩) H7)
 (NilP x15r0 fun x22p =>
 ∃ x24c0 : Int, H5.cell ⟨x22p.block, x22p.off + 1, none⟩ = some (Value.int .i64 x24c0) ∧ ∃ x24c1 : Int, H5.cell ⟨x22p.block, x22p.off + 2, none⟩ = some (Value.int .i64 x24c1) ∧ StCell H5 ⟨x2b, 0, none⟩ (Value.int .i64 x24c0) fun H8 =>
 StCell H8 ⟨x2b, 1, none⟩ (Value.int .i64 x24c1) fun H9 =>
 ∃ r0c0_2 : Int, H9.cell ⟨x2b, 0, none⟩ = some (Value.int .i64 r0c0_2) ∧ ∃ r0c1_2 : Int, H9.cell ⟨x2b, 1, none⟩ = some (Value.int .i64 r0c1_2) ∧ R (Value.tuple ⟨[(Value.agg ⟨[(Value.int .i64 r0c0_2), (Value.int .i64 r0c1_2)]⟩), (Value.int .i64 0)]⟩) H9))
theorem ring_Ring_device_eq (r0b : Nat) (H : Heap) (R : Value → Heap → Prop) : ring_Ring_device_p r0b H R = CodeW Try.prog plan_ring_Ring_device (bodyOf Try.f53) (env0 [(Value.pointer (some ⟨r0b, 0, none⟩))]) H (RetW Try.prog Try.f53.results.toList R) := by kernel_rfl
theorem ring_Ring_device_sh (r0b : Nat) {H : Heap} {R : Value → Heap → Prop} (h : ring_Ring_device_p r0b H R) : FnW Try.prog f_ring_Ring_device ⟨[(Value.pointer (some ⟨r0b, 0, none⟩))]⟩ H R := FnW.of_code k_ring_Ring_device rfl (Eq.mp (ring_Ring_device_eq r0b H R) h)
def ring_Ring_device_nil_p (H : Heap) (R : Value → Heap → Prop) : Prop :=
 NewW H (Obj.cells ⟨[(Value.int .i64 0), (Value.int .i64 0)]⟩ T_pool_Handle) fun x2b H1 =>
 FnW Try.prog f_ring_Ring_is ⟨[(Value.pointer none)]⟩ H1 fun x7v H2 =>
 ∃ x7 : Bool, x7v = (Value.bool x7) ∧
 IfB (!x7)
 (StCell H2 ⟨x2b, 0, none⟩ (Value.int .i64 0) fun H3 =>
 StCell H3 ⟨x2b, 1, none⟩ (Value.int .i64 0) fun H4 =>
 ∃ r0c0 : Int, H4.cell ⟨x2b, 0, none⟩ = some (Value.int .i64 r0c0) ∧ ∃ r0c1 : Int, H4.cell ⟨x2b, 1, none⟩ = some (Value.int .i64 r0c1) ∧ R (Value.tuple ⟨[(Value.agg ⟨[(Value.int .i64 r0c0), (Value.int .i64 r0c1)]⟩), (Value.int .i64 1)]⟩) H4)
 (False)
theorem ring_Ring_device_nil_eq  (H : Heap) (R : Value → Heap → Prop) : ring_Ring_device_nil_p  H R = CodeW Try.prog plan_ring_Ring_device (bodyOf Try.f53) (env0 [(Value.pointer none)]) H (RetW Try.prog Try.f53.results.toList R) := by kernel_rfl
theorem ring_Ring_device_nil_sh  {H : Heap} {R : Value → Heap → Prop} (h : ring_Ring_device_nil_p  H R) : FnW Try.prog f_ring_Ring_device ⟨[(Value.pointer none)]⟩ H R := FnW.of_code k_ring_Ring_device rfl (Eq.mp (ring_Ring_device_nil_eq  H R) h)
def plan_ref03_Ring_work : Plan := ⟨[(5, [0, 2, 3, 4, 5, 7, 1, 8, 6, 9, 10, 11, 12], [35])], []⟩
theorem k_ref03_Ring_work : Known Try.prog f_ref03_Ring_work Try.f54 plan_ref03_Ring_work (bodyOf Try.f54) := ⟨Try.func54, by kernel_rfl, by kernel_rfl, by kernel_rfl, by kernel_rfl, by kernel_rfl⟩
def ref03_Ring_work_p (r0b : Nat) (H : Heap) (R : Value → Heap → Prop) : Prop :=
 NewW H (Obj.cells ⟨[(Value.int .i64 0), (Value.int .i64 0)]⟩ T_ref02_Handle) fun x2b H1 =>
 ∃ (x8a : Option Addr) (x8n x8c : Nat), H1.cell ⟨r0b, 1, none⟩ = some (Value.slice x8a x8n x8c) ∧
 IfB (((x8n : Int) : Int) == 0)
 (StCell H1 ⟨x2b, 0, none⟩ (Value.int .i64 0) fun H2 =>
 StCell H2 ⟨x2b, 1, none⟩ (Value.int .i64 0) fun H3 =>
 ∃ r0c0 : Int, H3.cell ⟨x2b, 0, none⟩ = some (Value.int .i64 r0c0) ∧ ∃ r0c1 : Int, H3.cell ⟨x2b, 1, none⟩ = some (Value.int .i64 r0c1) ∧ R (Value.tuple ⟨[(Value.agg ⟨[(Value.int .i64 r0c0), (Value.int .i64 r0c1)]⟩), (Value.bool false)]⟩) H3)
 (∃ (x15a : Option Addr) (x15n x15c : Nat), H1.cell ⟨r0b, 1, none⟩ = some (Value.slice x15a x15n x15c) ∧
 NilP x15a fun x16q =>
 InB 0 x15n fun x16i =>
 elemAt x16q x16i 2 fun x16p =>
 ∃ x17c0 : Int, H1.cell x16p = some (Value.int .i64 x17c0) ∧ ∃ x17c1 : Int, H1.cell ⟨x16p.block, x16p.off + 1, none⟩ = some (Value.int .i64 x17c1) ∧ NewW H1 (Obj.cells ⟨[(Value.int .i64 0), (Value.int .i64 0)]⟩ T_ref02_Handle) fun h4b H4 =>
 StCell H4 ⟨h4b, 0, none⟩ (Value.int .i64 x17c0) fun H5 =>
 StCell H5 ⟨h4b, 1, none⟩ (Value.int .i64 x17c1) fun H6 =>
 NewW H6 (Obj.cells ⟨[]⟩ T_ref02_Handle) fun x19b H7 =>
 ∃ (x23a : Option Addr) (x23n x23c : Nat), H7.cell ⟨r0b, 1, none⟩ = some (Value.slice x23a x23n x23c) ∧
 InC 1 x23n fun x24l =>
 AppW Try.prog #[T_sl_pointsmanref02_Handle, T_sl_pointsmanref02_Handle] T_sl_pointsmanref02_Handle [(Value.slice (some ⟨x19b, 0, none⟩) 0 0), (Value.slice (if x23c = x24l then x23a else Option.map (fun a => Addr.add a (x24l * 2)) x23a) (x23n - x24l) (x23c - x24l))] H7 fun x25v H8 =>
 ∃ (x25a : Option Addr) (x25n x25c : Nat), x25v = (Value.slice x25a x25n x25c) ∧
 StCell H8 ⟨r0b, 1, none⟩ (Value.slice x25a x25n x25c) fun H9 =>
 ∃ bs : List Nat, (∀ b ∈ bs, ∃ o, H9 b = some o) ∧
 ∃ (x33a : Option Addr) (x33n x33c : Nat), H9.cell ⟨r0b, 2, none⟩ = some (Value.slice x33a x33n x33c) ∧
 h4b ∈ bs ∧ ∃ x35c0 : Int, H9.cell ⟨h4b, 0, none⟩ = some (Value.int .i64 x35c0) ∧ ∃ x35c1 : Int, H9.cell ⟨h4b, 1, none⟩ = some (Value.int .i64 x35c1) ∧ NewW H9 (Obj.cells ⟨[]⟩ T_ref02_Handle) fun x29b H10 =>
 NewW H10 (Obj.cells ⟨[(Value.int .i64 x35c0), (Value.int .i64 x35c1)]⟩ T_ref02_Handle) fun x36b H11 =>
 AppW Try.prog #[T_sl_pointsmanref02_Handle, T_sl_pointsmanref02_Handle] T_sl_pointsmanref02_Handle [(Value.slice (some ⟨x29b, 0, none⟩) 0 0), (Value.slice x33a x33n x33c)] H11 fun x34v H12 =>
 ∃ (x34a : Option Addr) (x34n x34c : Nat), x34v = (Value.slice x34a x34n x34c) ∧
 KeptIn bs H9 H12 ∧ AppW Try.prog #[T_sl_pointsmanref02_Handle, T_sl_pointsmanref02_Handle] T_sl_pointsmanref02_Handle [(Value.slice x34a x34n x34c), (Value.slice (some ⟨x36b, 0, none⟩) 1 1)] H12 fun x37v H13 =>
 ∃ (x37a : Option Addr) (x37n x37c : Nat), x37v = (Value.slice x37a x37n x37c) ∧
 KeptIn bs H9 H13 ∧ StCell H13 ⟨r0b, 2, none⟩ (Value.slice x37a x37n x37c) fun H14 =>
 KeptIn bs H9 H14 ∧ ∃ x43 : Int, H14.cell ⟨r0b, 4, none⟩ = some (Value.int .i64 x43) ∧
 StCell H14 ⟨r0b, 4, none⟩ (Value.int .i64 (IntKind.wrap .i64 (x43 + 1))) fun H15 =>
 ∃ x47c0 : Int, H15.cell ⟨h4b, 0, none⟩ = some (Value.int .i64 x47c0) ∧ ∃ x47c1 : Int, H15.cell ⟨h4b, 1, none⟩ = some (Value.int .i64 x47c1) ∧ StCell H15 ⟨x2b, 0, none⟩ (Value.int .i64 x47c0) fun H16 =>
 StCell H16 ⟨x2b, 1, none⟩ (Value.int .i64 x47c1) fun H17 =>
 ∃ r0c0_1 : Int, H17.cell ⟨x2b, 0, none⟩ = some (Value.int .i64 r0c0_1) ∧ ∃ r0c1_1 : Int, H17.cell ⟨x2b, 1, none⟩ = some (Value.int .i64 r0c1_1) ∧ R (Value.tuple ⟨[(Value.agg ⟨[(Value.int .i64 r0c0_1), (Value.int .i64 r0c1_1)]⟩), (Value.bool true)]⟩) H17)
theorem ref03_Ring_work_eq (r0b : Nat) (H : Heap) (R : Value → Heap → Prop) : ref03_Ring_work_p r0b H R = CodeW Try.prog plan_ref03_Ring_work (bodyOf Try.f54) (env0 [(Value.pointer (some ⟨r0b, 0, none⟩))]) H (RetW Try.prog Try.f54.results.toList R) := by kernel_rfl
theorem ref03_Ring_work_sh (r0b : Nat) {H : Heap} {R : Value → Heap → Prop} (h : ref03_Ring_work_p r0b H R) : FnW Try.prog f_ref03_Ring_work ⟨[(Value.pointer (some ⟨r0b, 0, none⟩))]⟩ H R := FnW.of_code k_ref03_Ring_work rfl (Eq.mp (ref03_Ring_work_eq r0b H R) h)
end Go.Proofs.Ytligjponbhnedaa
