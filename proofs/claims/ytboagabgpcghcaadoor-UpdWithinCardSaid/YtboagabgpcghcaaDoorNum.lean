/-
  NUMBERS BY NAME: printed by a program of ours over this translation.
-/
import Derived.Test.YtboagabgpcghcaaDoorPw15
import Derived.Test.YtboagabgpcghcaaDoorRows
set_option maxRecDepth 100000
set_option maxHeartbeats 4000000
set_option linter.unusedVariables false
namespace Go.Proofs.YtboagabgpcghcaaDoor
open Go.Sh
def bodyOf (fn : Func) : Code := match fn.body with | some c => c | none => .skip
abbrev T_bool : TypeId := 4
abbrev T_uint8 : TypeId := 5
abbrev T_string : TypeId := 9
abbrev T_sl_uint8 : TypeId := 22
abbrev T_api_Attrs : TypeId := 31
abbrev T_api_Fault : TypeId := 35
abbrev T_api_Prefix : TypeId := 41
abbrev T_uint64 : TypeId := 47
abbrev T_attr_reader : TypeId := 72
abbrev T_attr_piece : TypeId := 74
abbrev T_attr_writer : TypeId := 86
abbrev T_a20_uint64 : TypeId := 155
abbrev f_law21_UpdWithin : FuncId := 4
abbrev f_law21_works : FuncId := 5
abbrev f_upd_Read : FuncId := 6
abbrev f_upd_Right : FuncId := 8
abbrev f_upd_Build : FuncId := 9
abbrev f_upd_Within : FuncId := 10
abbrev f_law21_UpdWithin_1 : FuncId := 11
abbrev f_base_SameBytes : FuncId := 12
abbrev f_upd_Text : FuncId := 13
abbrev f_upd_part : FuncId := 14
abbrev f_upd_wrong : FuncId := 15
abbrev f_attr_Read : FuncId := 16
abbrev f_upd_all : FuncId := 17
abbrev f_upd_mask : FuncId := 18
abbrev f_upd_put : FuncId := 19
abbrev f_attr_Put : FuncId := 20
abbrev f_slices_Concatasl_byte_byte : FuncId := 21
abbrev f_upd_sized : FuncId := 22
abbrev f_strconv_Itoa : FuncId := 23
abbrev f_strings_Join : FuncId := 24
abbrev f_upd_get16 : FuncId := 25
abbrev f_attr_next : FuncId := 26
abbrev f_attr_reader_found : FuncId := 27
abbrev f_attr_reader_take : FuncId := 28
abbrev f_slices_Cloneasl_byte_byte : FuncId := 29
abbrev f_attr_reader_merge : FuncId := 30
abbrev f_upd_prefixes : FuncId := 31
abbrev f_upd_octets : FuncId := 32
abbrev f_attr_Check : FuncId := 33
abbrev f_path_Put : FuncId := 34
abbrev f_attr_writer_usual : FuncId := 35
abbrev f_attr_num : FuncId := 36
abbrev f_attr_writer_perhaps : FuncId := 37
abbrev f_attr_great : FuncId := 38
abbrev f_attr_writer_put : FuncId := 39
abbrev f_slices_Growasl_byte_byte : FuncId := 40
abbrev f_attr_known : FuncId := 45
abbrev f_attr_get : FuncId := 49
abbrev f_path_Merge : FuncId := 50
abbrev f_path_Check : FuncId := 51
abbrev f_upd_prefixes_1 : FuncId := 52
abbrev f_attr_hop : FuncId := 53
abbrev f_attr_others : FuncId := 54
abbrev f_path_kind : FuncId := 55
abbrev f_attr_system : FuncId := 56
abbrev f_slices_ContainsFuncasl_api_Segment_api_Segment : FuncId := 57
abbrev f_attr_great_1 : FuncId := 58
abbrev f_slices_ContainsFuncasl_uint32_uint32 : FuncId := 59
abbrev f_attr_great_1_1 : FuncId := 60
abbrev f_path_part : FuncId := 74
abbrev f_path_count : FuncId := 75
abbrev f_slices_IndexFuncasl_api_Segment_api_Segment : FuncId := 76
abbrev f_slices_IndexFuncasl_uint32_uint32 : FuncId := 77
abbrev f_slices_Containsasl_uint32_uint32 : FuncId := 89
abbrev f_slices_Indexasl_uint32_uint32 : FuncId := 97
abbrev g_internal_strconv_uint64pow10 : Nat := 0
end Go.Proofs.YtboagabgpcghcaaDoor
