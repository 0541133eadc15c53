/-
  NUMBERS BY NAME: printed by a program of ours over this translation.
-/
import Derived.Test.YtboagabgpcghcaaGreatDoorPw15
import Derived.Test.YtboagabgpcghcaaGreatDoorRows
set_option maxRecDepth 100000
set_option maxHeartbeats 4000000
set_option linter.unusedVariables false
namespace Go.Proofs.YtboagabgpcghcaaGreatDoor
open Go.Sh
def bodyOf (fn : Func) : Code := match fn.body with | some c => c | none => .skip
abbrev T_bool : TypeId := 4
abbrev T_uint8 : TypeId := 5
abbrev T_string : TypeId := 9
abbrev T_sl_uint8 : TypeId := 22
abbrev T_uint32 : TypeId := 25
abbrev T_api_Attrs : TypeId := 30
abbrev T_api_Fault : TypeId := 34
abbrev T_api_Prefix : TypeId := 49
abbrev T_uint64 : TypeId := 85
abbrev T_attr_reader : TypeId := 93
abbrev T_attr_piece : TypeId := 95
abbrev T_api_Raw : TypeId := 113
abbrev T_attr_writer : TypeId := 119
abbrev T_api_Segment : TypeId := 148
abbrev T_a20_uint64 : TypeId := 204
abbrev f_law21_UpdBuilds : FuncId := 5
abbrev f_upd_Read : FuncId := 7
abbrev f_base_SameBytes : FuncId := 11
abbrev f_law21_works : FuncId := 12
abbrev f_law21_few : FuncId := 13
abbrev f_upd_Build : FuncId := 14
abbrev f_ref21_Build : FuncId := 15
abbrev f_upd_End : FuncId := 16
abbrev f_ref21_End : FuncId := 17
abbrev f_upd_Right : FuncId := 20
abbrev f_ref21_Right : FuncId := 21
abbrev f_upd_Text : FuncId := 24
abbrev f_upd_part : FuncId := 26
abbrev f_upd_wrong : FuncId := 27
abbrev f_attr_Read : FuncId := 28
abbrev f_upd_all : FuncId := 29
abbrev f_ref20_Copy : FuncId := 36
abbrev f_upd_put : FuncId := 37
abbrev f_attr_Put : FuncId := 38
abbrev f_slices_Concatasl_byte_byte : FuncId := 39
abbrev f_upd_sized : FuncId := 40
abbrev f_ref21_put : FuncId := 41
abbrev f_ref20_Put : FuncId := 42
abbrev f_ref21_two : FuncId := 43
abbrev f_upd_mask : FuncId := 50
abbrev f_ref21_size : FuncId := 51
abbrev f_strconv_Itoa : FuncId := 52
abbrev f_strings_Join : FuncId := 53
abbrev f_upd_get16 : FuncId := 56
abbrev f_attr_next : FuncId := 57
abbrev f_attr_reader_found : FuncId := 58
abbrev f_attr_reader_take : FuncId := 59
abbrev f_slices_Cloneasl_byte_byte : FuncId := 60
abbrev f_attr_reader_merge : FuncId := 61
abbrev f_upd_prefixes : FuncId := 62
abbrev f_ref20_known : FuncId := 64
abbrev f_ref19_Check : FuncId := 69
abbrev f_ref19_Copy : FuncId := 71
abbrev f_upd_octets : FuncId := 72
abbrev f_attr_Check : FuncId := 73
abbrev f_path_Put : FuncId := 74
abbrev f_attr_writer_usual : FuncId := 75
abbrev f_attr_num : FuncId := 76
abbrev f_attr_writer_perhaps : FuncId := 77
abbrev f_attr_great : FuncId := 78
abbrev f_attr_writer_put : FuncId := 79
abbrev f_slices_Growasl_byte_byte : FuncId := 80
abbrev f_ref20_Check : FuncId := 81
abbrev f_ref19_Put : FuncId := 82
abbrev f_ref20_put : FuncId := 83
abbrev f_ref20_num4 : FuncId := 84
abbrev f_ref20_great : FuncId := 85
abbrev f_attr_known : FuncId := 94
abbrev f_attr_get : FuncId := 98
abbrev f_path_Merge : FuncId := 99
abbrev f_path_Check : FuncId := 100
abbrev f_upd_prefixes_1 : FuncId := 101
abbrev f_attr_hop : FuncId := 105
abbrev f_attr_others : FuncId := 106
abbrev f_path_kind : FuncId := 107
abbrev f_attr_system : FuncId := 108
abbrev f_slices_ContainsFuncasl_api_Segment_api_Segment : FuncId := 109
abbrev f_attr_great_1 : FuncId := 110
abbrev f_slices_ContainsFuncasl_uint32_uint32 : FuncId := 111
abbrev f_attr_great_1_1 : FuncId := 112
abbrev f_path_part : FuncId := 133
abbrev f_path_count : FuncId := 134
abbrev f_slices_IndexFuncasl_api_Segment_api_Segment : FuncId := 135
abbrev f_slices_IndexFuncasl_uint32_uint32 : FuncId := 136
abbrev f_slices_Containsasl_uint32_uint32 : FuncId := 160
abbrev f_slices_Indexasl_uint32_uint32 : FuncId := 174
abbrev g_internal_strconv_uint64pow10 : Nat := 3
end Go.Proofs.YtboagabgpcghcaaGreatDoor
