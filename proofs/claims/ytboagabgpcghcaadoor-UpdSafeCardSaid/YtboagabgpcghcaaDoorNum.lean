/-
  NUMBERS BY NAME: printed by a program of ours over this translation.
-/
import Derived.Test.YtboagabgpcghcaaDoorPw15
import Derived.Test.YtboagabgpcghcaaDoorRows
set_option linter.all false
set_option maxRecDepth 100000
set_option maxHeartbeats 4000000
namespace Go.Proofs.YtboagabgpcghcaaDoor
open Go.Sh
def bodyOf (fn : Func) : Code := match fn.body with | some c => c | none => .skip
abbrev T_int : TypeId := 3
abbrev T_bool : TypeId := 4
abbrev T_uint8 : TypeId := 5
abbrev T_string : TypeId := 9
abbrev T_sl_uint8 : TypeId := 22
abbrev T_uint32 : TypeId := 26
abbrev T_sl_uint32 : TypeId := 28
abbrev T_sl_api_Raw : TypeId := 29
abbrev T_api_Attrs : TypeId := 31
abbrev T_api_Fault : TypeId := 35
abbrev T_api_Prefix : TypeId := 41
abbrev T_uint64 : TypeId := 47
abbrev T_p_attr_reader : TypeId := 69
abbrev T_attr_reader : TypeId := 72
abbrev T_attr_piece : TypeId := 74
abbrev T_attr_writer : TypeId := 86
abbrev T_api_Raw : TypeId := 93
abbrev T_api_Segment : TypeId := 116
abbrev T_a20_uint64 : TypeId := 155
abbrev f_zz37 : FuncId := 3
abbrev f_zz46 : FuncId := 5
abbrev f_zz11 : FuncId := 6
abbrev f_upd_End : FuncId := 7
abbrev f_zz21 : FuncId := 8
abbrev f_zz13 : FuncId := 9
abbrev f_zz50 : FuncId := 12
abbrev f_zz26 : FuncId := 13
abbrev f_zz24 : FuncId := 14
abbrev f_zz31 : FuncId := 15
abbrev f_zz16 : FuncId := 16
abbrev f_upd_all : FuncId := 17
abbrev f_zz18 : FuncId := 18
abbrev f_upd_put : FuncId := 19
abbrev f_zz4 : FuncId := 20
abbrev f_zz10 : FuncId := 21
abbrev f_zz34 : FuncId := 22
abbrev f_strconv_Itoa : FuncId := 23
abbrev f_strings_Join : FuncId := 24
abbrev f_zz35 : FuncId := 25
abbrev f_zz40 : FuncId := 26
abbrev f_zz60 : FuncId := 27
abbrev f_zz36 : FuncId := 28
abbrev f_zz54 : FuncId := 29
abbrev f_zz53 : FuncId := 30
abbrev f_zz65 : FuncId := 31
abbrev f_zz19 : FuncId := 32
abbrev f_zz14 : FuncId := 33
abbrev f_zz6 : FuncId := 34
abbrev f_zz2 : FuncId := 35
abbrev f_zz9 : FuncId := 36
abbrev f_zz7 : FuncId := 37
abbrev f_zz44 : FuncId := 38
abbrev f_zz15 : FuncId := 39
abbrev f_zz43 : FuncId := 40
abbrev f_zz5 : FuncId := 45
abbrev f_zz56 : FuncId := 46
abbrev f_zz61 : FuncId := 47
abbrev f_zz58 : FuncId := 48
abbrev f_zz51 : FuncId := 49
abbrev f_zz33 : FuncId := 50
abbrev f_zz8 : FuncId := 51
abbrev f_zz55 : FuncId := 52
abbrev f_zz30 : FuncId := 53
abbrev f_zz20 : FuncId := 54
abbrev f_zz39 : FuncId := 55
abbrev f_zz32 : FuncId := 56
abbrev f_zz48 : FuncId := 57
abbrev f_zz0 : FuncId := 58
abbrev f_zz47 : FuncId := 59
abbrev f_zz1 : FuncId := 60
abbrev f_zz62 : FuncId := 64
abbrev f_zz63 : FuncId := 65
abbrev f_zz64 : FuncId := 66
abbrev f_zz59 : FuncId := 67
abbrev f_zz3 : FuncId := 68
abbrev f_zz41 : FuncId := 69
abbrev f_zz17 : FuncId := 70
abbrev f_zz12 : FuncId := 71
abbrev f_zz23 : FuncId := 72
abbrev f_zz22 : FuncId := 73
abbrev f_zz38 : FuncId := 74
abbrev f_zz25 : FuncId := 75
abbrev f_zz29 : FuncId := 76
abbrev f_zz28 : FuncId := 77
abbrev f_zz66 : FuncId := 84
abbrev f_zz67 : FuncId := 85
abbrev f_zz52 : FuncId := 86
abbrev f_zz49 : FuncId := 87
abbrev f_zz45 : FuncId := 88
abbrev f_zz42 : FuncId := 89
abbrev f_zz57 : FuncId := 96
abbrev f_zz27 : FuncId := 97
abbrev g_internal_strconv_uint64pow10 : Nat := 0
end Go.Proofs.YtboagabgpcghcaaDoor
