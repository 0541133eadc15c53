/-
  NUMBERS BY NAME: printed by a program of ours over this translation.
-/
import Derived.Test.YtinilfhnplfhoaaPw15
import Derived.Test.YtinilfhnplfhoaaRows
set_option linter.all false
set_option maxRecDepth 100000
set_option maxHeartbeats 4000000
namespace Go.Proofs.Ytinilfhnplfhoaa
open Go.Sh
def bodyOf (fn : Func) : Code := match fn.body with | some c => c | none => .skip
abbrev T_int : TypeId := 3
abbrev T_bool : TypeId := 4
abbrev T_uint8 : TypeId := 5
abbrev T_uint32 : TypeId := 23
abbrev T_sl_uint32 : TypeId := 25
abbrev T_sl_api_Raw : TypeId := 26
abbrev T_api_Attrs : TypeId := 28
abbrev T_sl_uint8 : TypeId := 30
abbrev T_api_Segment : TypeId := 40
abbrev T_api_Raw : TypeId := 42
abbrev T_api_Fault : TypeId := 44
abbrev T_attr_writer : TypeId := 53
abbrev T_p_attr_reader : TypeId := 70
abbrev T_attr_reader : TypeId := 73
abbrev T_attr_piece : TypeId := 75
abbrev f_law20_AttrTwice : FuncId := 7
abbrev f_attr_Put : FuncId := 9
abbrev f_attr_Check : FuncId := 11
abbrev f_base_SameBytes : FuncId := 13
abbrev f_law20_works : FuncId := 14
abbrev f_ref20_Same : FuncId := 17
abbrev f_attr_Read : FuncId := 18
abbrev f_base_Bytes : FuncId := 20
abbrev f_path_Put : FuncId := 23
abbrev f_attr_writer_usual : FuncId := 24
abbrev f_attr_num : FuncId := 25
abbrev f_attr_writer_perhaps : FuncId := 26
abbrev f_attr_great : FuncId := 27
abbrev f_attr_writer_put : FuncId := 28
abbrev f_path_Check : FuncId := 33
abbrev f_attr_hop : FuncId := 34
abbrev f_attr_others : FuncId := 35
abbrev f_slices_Cloneasl_uint32_uint32 : FuncId := 38
abbrev f_slices_Cloneasl_byte_byte : FuncId := 39
abbrev f_ref19_Same : FuncId := 46
abbrev f_attr_next : FuncId := 47
abbrev f_attr_reader_found : FuncId := 48
abbrev f_attr_reader_take : FuncId := 49
abbrev f_attr_reader_merge : FuncId := 50
abbrev f_path_kind : FuncId := 51
abbrev f_attr_known : FuncId := 52
abbrev f_attr_system : FuncId := 53
abbrev f_slices_ContainsFuncasl_api_Segment_api_Segment : FuncId := 54
abbrev f_attr_great_1 : FuncId := 55
abbrev f_slices_ContainsFuncasl_uint32_uint32 : FuncId := 56
abbrev f_attr_great_1_1 : FuncId := 57
abbrev f_slices_Concatasl_byte_byte : FuncId := 58
abbrev f_path_part : FuncId := 59
abbrev f_path_count : FuncId := 60
abbrev f_attr_reader_handOn : FuncId := 63
abbrev f_attr_reader_may : FuncId := 64
abbrev f_attr_reader_must : FuncId := 65
abbrev f_attr_get : FuncId := 66
abbrev f_path_Merge : FuncId := 67
abbrev f_slices_IndexFuncasl_api_Segment_api_Segment : FuncId := 68
abbrev f_slices_IndexFuncasl_uint32_uint32 : FuncId := 69
abbrev f_slices_Growasl_byte_byte : FuncId := 70
abbrev f_slices_Containsasl_uint32_uint32 : FuncId := 71
abbrev f_slices_IndexFuncasl_api_Raw_api_Raw : FuncId := 72
abbrev f_attr_reader_handOn_1 : FuncId := 73
abbrev f_slices_Insertasl_api_Raw_api_Raw : FuncId := 74
abbrev f_attr_reader_maker : FuncId := 75
abbrev f_path_Read : FuncId := 76
abbrev f_attr_reader_numbers : FuncId := 77
abbrev f_path_Len : FuncId := 78
abbrev f_path_clone : FuncId := 79
abbrev f_path_front : FuncId := 80
abbrev f_slices_Concatasl_uint32_uint32 : FuncId := 81
abbrev f_slices_Indexasl_uint32_uint32 : FuncId := 82
abbrev f_slices_overlapsaapi_Raw : FuncId := 83
abbrev f_slices_rotateRightaapi_Raw : FuncId := 84
abbrev f_slices_Chunkasl_byte_byte : FuncId := 85
abbrev f_slices_Growasl_uint32_uint32 : FuncId := 86
abbrev f_slices_Chunkasl_byte_byte_1 : FuncId := 88
instance : Laid := ⟨fun _ => false, fun _ => True⟩
end Go.Proofs.Ytinilfhnplfhoaa
