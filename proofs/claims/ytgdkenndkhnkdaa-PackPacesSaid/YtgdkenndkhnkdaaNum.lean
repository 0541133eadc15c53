/-
  NUMBERS BY NAME: printed by a program of ours over this translation.
-/
import Derived.Test.YtgdkenndkhnkdaaPw15
import Derived.Test.YtgdkenndkhnkdaaRows
set_option maxRecDepth 100000
set_option maxHeartbeats 4000000
set_option linter.unusedVariables false
namespace Go.Proofs.Ytgdkenndkhnkdaa
open Go.Sh
def bodyOf (fn : Func) : Code := match fn.body with | some c => c | none => .skip
abbrev T_int : TypeId := 3
abbrev T_bool : TypeId := 4
abbrev T_uint8 : TypeId := 5
abbrev T_sl_view_Change : TypeId := 22
abbrev T_sl_uint8 : TypeId := 32
abbrev T_api_Prefix : TypeId := 44
abbrev T_view_Change : TypeId := 46
abbrev T_pack_Pacer : TypeId := 52
abbrev T_sl_int : TypeId := 55
abbrev T_sl_api_Prefix : TypeId := 64
abbrev T_sl_sl_view_Change : TypeId := 68
abbrev T_attr_writer : TypeId := 91
abbrev f_law33_PackPaces : FuncId := 6
abbrev f_pack_Pack : FuncId := 8
abbrev f_base_SameBytes : FuncId := 11
abbrev f_law33_works : FuncId := 12
abbrev f_ref20_Check : FuncId := 14
abbrev f_pack_Pacer_Go : FuncId := 15
abbrev f_pack_Pacer_Next : FuncId := 16
abbrev f_pack_New : FuncId := 17
abbrev f_pack_right : FuncId := 19
abbrev f_pack_parts : FuncId := 20
abbrev f_pack_message : FuncId := 21
abbrev f_pack_groupsaview_Change : FuncId := 22
abbrev f_pack_alike : FuncId := 23
abbrev f_attr_Put : FuncId := 24
abbrev f_ref21_Right : FuncId := 25
abbrev f_ref33_Message : FuncId := 27
abbrev f_ref20_Put : FuncId := 29
abbrev f_pack_End : FuncId := 30
abbrev f_ref19_Check : FuncId := 31
abbrev f_ref20_known : FuncId := 32
abbrev f_upd_Right : FuncId := 34
abbrev f_attr_Check : FuncId := 35
abbrev f_pack_parts_1 : FuncId := 36
abbrev f_pack_size : FuncId := 37
abbrev f_upd_Build : FuncId := 38
abbrev f_mark_Build : FuncId := 39
abbrev f_attr_Same : FuncId := 40
abbrev f_path_Put : FuncId := 41
abbrev f_attr_writer_usual : FuncId := 42
abbrev f_attr_num : FuncId := 43
abbrev f_attr_writer_perhaps : FuncId := 44
abbrev f_attr_great : FuncId := 45
abbrev f_attr_writer_put : FuncId := 46
abbrev f_ref21_size : FuncId := 47
abbrev f_ref21_Build : FuncId := 49
abbrev f_ref17_Build : FuncId := 50
abbrev f_ref19_Put : FuncId := 52
abbrev f_ref20_put : FuncId := 53
abbrev f_ref20_num4 : FuncId := 54
abbrev f_ref20_great : FuncId := 55
abbrev f_upd_mask : FuncId := 56
abbrev f_path_Check : FuncId := 57
abbrev f_attr_hop : FuncId := 58
abbrev f_attr_others : FuncId := 59
abbrev f_upd_put : FuncId := 60
abbrev f_slices_Concatasl_byte_byte : FuncId := 61
abbrev f_upd_sized : FuncId := 62
abbrev f_mark_fits : FuncId := 63
abbrev f_mark_ones : FuncId := 64
abbrev f_attr_Same_1 : FuncId := 65
abbrev f_slices_Equalasl_byte_byte : FuncId := 66
abbrev f_attr_perhaps : FuncId := 67
abbrev f_path_Same : FuncId := 68
abbrev f_slices_Equalasl_uint32_uint32 : FuncId := 69
abbrev f_slices_EqualFuncasl_api_Raw_sl_api_Raw_api_Raw_api_Raw : FuncId := 70
abbrev f_path_kind : FuncId := 71
abbrev f_attr_known : FuncId := 72
abbrev f_attr_system : FuncId := 73
abbrev f_slices_ContainsFuncasl_api_Segment_api_Segment : FuncId := 74
abbrev f_attr_great_1 : FuncId := 75
abbrev f_slices_ContainsFuncasl_uint32_uint32 : FuncId := 76
abbrev f_attr_great_1_1 : FuncId := 77
abbrev f_ref21_put : FuncId := 78
abbrev f_ref21_two : FuncId := 79
abbrev f_ref17_right : FuncId := 80
abbrev f_path_part : FuncId := 81
abbrev f_path_count : FuncId := 82
abbrev f_upd_octets : FuncId := 83
abbrev f_slices_Growasl_byte_byte : FuncId := 84
abbrev f_mark_lengths : FuncId := 85
abbrev f_slices_EqualFuncasl_api_Segment_sl_api_Segment_api_Segment_api_Segment : FuncId := 86
abbrev f_path_Same_1 : FuncId := 87
abbrev f_slices_IndexFuncasl_api_Segment_api_Segment : FuncId := 88
abbrev f_slices_IndexFuncasl_uint32_uint32 : FuncId := 89
abbrev f_slices_Containsasl_uint32_uint32 : FuncId := 90
abbrev f_slices_Indexasl_uint32_uint32 : FuncId := 91
instance : Laid := ⟨fun _ => false, fun _ => True⟩
end Go.Proofs.Ytgdkenndkhnkdaa
