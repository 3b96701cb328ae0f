import Derived.Test.YtfcglkajekohiaaAmT
set_option linter.unusedSimpArgs false
set_option linter.unusedVariables false
namespace Go.Proofs.Ytfcglkajekohiaa
open Go Go.Proofs.Ytfcglkajekohiaa.AM

def n_laws_FnExactDecode : Nat := 5
def n_laws_FnMessages : Nat := 6
def n_laws_eqIntS : Nat := 11
def n_laws_markIntS : Nat := 14
def n_laws_heldIntS : Nat := 15
def n_spec_Decode : Nat := 18
def n_impl_Decode : Nat := 19
def n_laws_eqMessage : Nat := 20
def n_laws_markMessage : Nat := 21
def n_laws_heldMessage : Nat := 22
def n_laws_big : Nat := 23
def n_spec_DrawEncode : Nat := 24
def n_impl_Encode : Nat := 25
def n_spec_MessageOk : Nat := 26
def n_impl_MessageOk : Nat := 27
def n_laws_sameMessage : Nat := 28
def n_spec_DrawDecode : Nat := 29
def n_spec_ReadConf : Nat := 33
def n_spec_l05Take : Nat := 43
def n_spec_l05Var : Nat := 44
def n_spec_ReadEntry : Nat := 45
def n_spec_l05ReadShort : Nat := 46
def n_spec_Encode : Nat := 47
def n_impl_scan_one : Nat := 48
def n_impl_scan_number : Nat := 49
def n_impl_scan_sign : Nat := 50
def n_impl_scan_count : Nat := 51
def n_impl_scan_short : Nat := 52
def n_impl_ReadEntry : Nat := 53
def n_impl_scan_done : Nat := 54
def n_laws_eqEntryS : Nat := 55
def n_laws_markEntryS : Nat := 56
def n_laws_heldEntryS : Nat := 57
def n_spec_l17Any : Nat := 58
def n_spec_l01New : Nat := 59
def n_impl_byteTexts : Nat := 60
def n_impl_varTexts : Nat := 61
def n_impl_flag : Nat := 62
def n_impl_EntryText : Nat := 63
def n_impl_shortTexts : Nat := 64
def n_spec_l01In : Nat := 65
def n_spec_EntryOk : Nat := 66
def n_spec_ConfOk : Nat := 67
def n_impl_within : Nat := 68
def n_impl_isNode : Nat := 69
def n_impl_isTerm : Nat := 70
def n_impl_EntryOk : Nat := 71
def n_impl_ConfOk : Nat := 72
def n_impl_isIndex : Nat := 73
def n_laws_sameInts : Nat := 74
def n_spec_l02Spoilt : Nat := 75
def n_impl_ReadConf : Nat := 79
def n_spec_ReadVar : Nat := 82
def n_spec_EntryText : Nat := 83
def n_spec_l01Var : Nat := 84
def n_spec_l17Flag : Nat := 85
def n_spec_l05Short : Nat := 86
def n_spec_ConfText : Nat := 87
def n_impl_ReadVar : Nat := 88
def n_impl_ReadShort : Nat := 89
def n_impl_scan_rest : Nat := 90
def n_laws_eqEntry : Nat := 91
def n_laws_markText : Nat := 92
def n_spec_l17Right : Nat := 93
def n_spec_l01Below : Nat := 94
def n_spec_l01PickInt : Nat := 95
def n_spec_l05Any : Nat := 96
def n_spec_l01Long : Nat := 97
def n_spec_l05AnyConf : Nat := 98
def n_impl_VarText : Nat := 99
def n_impl_ShortText : Nat := 100
def n_spec_l05Rise : Nat := 101
def n_impl_nodesOk : Nat := 102
def n_spec_l01Text : Nat := 103
def n_spec_l01Once : Nat := 106
def n_spec_l05Right : Nat := 107
def n_spec_l05Conf : Nat := 108
def n_spec_l01Byte : Nat := 109
def n_spec_CommandText : Nat := 110
def n_spec_l16Right : Nat := 111
def n_spec_CommandOk : Nat := 112
def n_spec_l16Short : Nat := 113
def n_spec_KeepNew : Nat := 114
def n_spec_l15Command : Nat := 115
def n_spec_l15Of : Nat := 116
def n_spec_l01Pick : Nat := 117
def n_spec_ItemOf : Nat := 118

def g_laws_FnExactDecode : SFn := ⟨.seq (.ops [⟨some 2, .mov (.const (.bool false)), none⟩]) (
 .seq (.seq (.ops [⟨some 11, .mov (.tmp 0), none⟩,
  ⟨some 12, .len true (.tmp 11), none⟩,
  ⟨some 13, .bin .gtr none (.tmp 12) (.const (I 1048576)), none⟩]) (
 .cond (.tmp 13) (.seq (.ops [⟨some 2, .mov (.const (.bool true)), none⟩]) (
 .ret)) (
 .skip))) (
 .seq (.ops [⟨some 15, .mov (.tmp 0), none⟩,
  ⟨some 16, .call n_spec_Decode [(.tmp 15)], none⟩,
  ⟨some 14, .mov (.tmp 16), none⟩,
  ⟨some 17, .extract 0 (.tmp 14), none⟩,
  ⟨some 18, .extract 1 (.tmp 14), none⟩,
  ⟨some 3, .new [(I 0), (I 0), (I 0), (I 0), (I 0), (I 0), (I 0), (.bool false), (.slice none 0 0), (.slice none 0 0), E, (.bool false)], none⟩,
  ⟨none, .store 12 (.tmp 3) (.tmp 17), none⟩,
  ⟨some 4, .mov (.tmp 18), none⟩]) (
 .seq (.ops [⟨some 20, .mov (.tmp 0), none⟩,
  ⟨some 21, .call n_impl_Decode [(.tmp 20)], none⟩,
  ⟨some 19, .mov (.tmp 21), none⟩,
  ⟨some 22, .extract 0 (.tmp 19), none⟩,
  ⟨some 23, .extract 1 (.tmp 19), none⟩,
  ⟨some 5, .new [(I 0), (I 0), (I 0), (I 0), (I 0), (I 0), (I 0), (.bool false), (.slice none 0 0), (.slice none 0 0), E, (.bool false)], none⟩,
  ⟨none, .store 12 (.tmp 5) (.tmp 22), none⟩,
  ⟨some 6, .mov (.tmp 23), none⟩]) (
 .seq (.seq (.ops [⟨some 24, .load true 12 (.tmp 5), none⟩,
  ⟨some 25, .load true 12 (.tmp 3), none⟩,
  ⟨some 26, .call n_laws_eqMessage [(.tmp 24), (.tmp 25)], none⟩,
  ⟨some 27, .un .not (.tmp 26), none⟩,
  ⟨some 28, .mov (.tmp 27), none⟩,
  ⟨some 29, .mov (.tmp 6), some (28, false)⟩,
  ⟨some 30, .mov (.tmp 4), some (28, false)⟩,
  ⟨some 31, .bin .neq (some [.self]) (.tmp 29) (.tmp 30), some (28, false)⟩,
  ⟨some 32, .pick (.tmp 28) (.const (.bool true)) (.tmp 31), none⟩]) (
 .cond (.tmp 32) (.seq (.ops [⟨some 2, .mov (.const (.bool false)), none⟩]) (
 .ret)) (
 .skip))) (
 .seq (.ops [⟨some 7, .mov (.const (I 1)), none⟩]) (
 .seq (.ops [⟨some 33, .load true 12 (.tmp 5), none⟩,
  ⟨some 34, .mov (.tmp 7), none⟩,
  ⟨some 35, .call n_laws_markMessage [(.tmp 33), (.tmp 34)], none⟩,
  ⟨some 7, .mov (.tmp 35), none⟩]) (
 .seq (.ops [⟨some 8, .mov (.const (I 1)), none⟩]) (
 .seq (.ops [⟨some 36, .load true 12 (.tmp 5), none⟩,
  ⟨some 37, .mov (.tmp 8), none⟩,
  ⟨some 38, .call n_laws_heldMessage [(.tmp 36), (.tmp 37)], none⟩,
  ⟨some 8, .mov (.tmp 38), none⟩]) (
 .seq (.seq (.ops [⟨some 39, .mov (.tmp 8), none⟩,
  ⟨some 40, .bin .lss none (.tmp 39) (.const (I 0)), none⟩]) (
 .cond (.tmp 40) (.seq (.ops [⟨some 2, .mov (.const (.bool false)), none⟩]) (
 .ret)) (
 .skip))) (
 .seq (.seq (.ops [⟨some 41, .mov (.tmp 8), none⟩,
  ⟨some 42, .mov (.tmp 7), none⟩,
  ⟨some 43, .bin .neq none (.tmp 41) (.tmp 42), none⟩]) (
 .cond (.tmp 43) (.seq (.ops [⟨some 2, .mov (.const (.bool false)), none⟩]) (
 .ret)) (
 .skip))) (
 .seq (.ops [⟨some 45, .mov (.tmp 0), none⟩,
  ⟨some 46, .call n_impl_Decode [(.tmp 45)], none⟩,
  ⟨some 44, .mov (.tmp 46), none⟩,
  ⟨some 47, .extract 0 (.tmp 44), none⟩,
  ⟨some 48, .extract 1 (.tmp 44), none⟩,
  ⟨some 9, .new [(I 0), (I 0), (I 0), (I 0), (I 0), (I 0), (I 0), (.bool false), (.slice none 0 0), (.slice none 0 0), E, (.bool false)], none⟩,
  ⟨none, .store 12 (.tmp 9) (.tmp 47), none⟩,
  ⟨some 10, .mov (.tmp 48), none⟩]) (
 .seq (.seq (.ops [⟨some 49, .load true 12 (.tmp 9), none⟩,
  ⟨some 50, .load true 12 (.tmp 3), none⟩,
  ⟨some 51, .call n_laws_eqMessage [(.tmp 49), (.tmp 50)], none⟩,
  ⟨some 52, .un .not (.tmp 51), none⟩,
  ⟨some 53, .mov (.tmp 52), none⟩,
  ⟨some 54, .mov (.tmp 10), some (53, false)⟩,
  ⟨some 55, .mov (.tmp 4), some (53, false)⟩,
  ⟨some 56, .bin .neq (some [.self]) (.tmp 54) (.tmp 55), some (53, false)⟩,
  ⟨some 57, .pick (.tmp 53) (.const (.bool true)) (.tmp 56), none⟩]) (
 .cond (.tmp 57) (.seq (.ops [⟨some 2, .mov (.const (.bool false)), none⟩]) (
 .ret)) (
 .skip))) (
 .seq (.ops [⟨some 8, .mov (.const (I 1)), none⟩]) (
 .seq (.ops [⟨some 58, .load true 12 (.tmp 5), none⟩,
  ⟨some 59, .mov (.tmp 8), none⟩,
  ⟨some 60, .call n_laws_heldMessage [(.tmp 58), (.tmp 59)], none⟩,
  ⟨some 8, .mov (.tmp 60), none⟩]) (
 .seq (.seq (.ops [⟨some 61, .mov (.tmp 8), none⟩,
  ⟨some 62, .bin .lss none (.tmp 61) (.const (I 0)), none⟩]) (
 .cond (.tmp 62) (.seq (.ops [⟨some 2, .mov (.const (.bool false)), none⟩]) (
 .ret)) (
 .skip))) (
 .seq (.seq (.ops [⟨some 63, .mov (.tmp 8), none⟩,
  ⟨some 64, .mov (.tmp 7), none⟩,
  ⟨some 65, .bin .neq none (.tmp 63) (.tmp 64), none⟩]) (
 .cond (.tmp 65) (.seq (.ops [⟨some 2, .mov (.const (.bool false)), none⟩]) (
 .ret)) (
 .skip))) (
 .seq (.ops [⟨some 2, .mov (.const (.bool true)), none⟩]) (
 .ret)))))))))))))))))),
 66, [.tmp 2]⟩

def g_laws_FnMessages : SFn := ⟨.seq (.ops [⟨some 2, .mov (.const (.bool false)), none⟩]) (
 .seq (.seq (.ops [⟨some 15, .mov (.tmp 0), none⟩,
  ⟨some 16, .call n_laws_big [(.tmp 15)], none⟩]) (
 .cond (.tmp 16) (.seq (.ops [⟨some 2, .mov (.const (.bool true)), none⟩]) (
 .ret)) (
 .skip))) (
 .seq (.ops [⟨some 17, .mov (.tmp 0), none⟩,
  ⟨some 18, .call n_spec_DrawEncode [(.tmp 17)], none⟩,
  ⟨some 3, .new [(I 0), (I 0), (I 0), (I 0), (I 0), (I 0), (I 0), (.bool false), (.slice none 0 0), (.slice none 0 0), E, (.bool false)], none⟩,
  ⟨none, .store 12 (.tmp 3) (.tmp 18), none⟩]) (
 .seq (.ops [⟨some 20, .load true 12 (.tmp 3), none⟩,
  ⟨some 21, .call n_impl_Encode [(.tmp 20)], none⟩,
  ⟨some 19, .mov (.tmp 21), none⟩,
  ⟨some 22, .extract 0 (.tmp 19), none⟩,
  ⟨some 23, .extract 1 (.tmp 19), none⟩,
  ⟨some 4, .mov (.tmp 22), none⟩,
  ⟨some 5, .mov (.tmp 23), none⟩]) (
 .seq (.ops [⟨some 25, .mov (.tmp 4), none⟩,
  ⟨some 26, .call n_impl_Decode [(.tmp 25)], none⟩,
  ⟨some 24, .mov (.tmp 26), none⟩,
  ⟨some 27, .extract 0 (.tmp 24), none⟩,
  ⟨some 28, .extract 1 (.tmp 24), none⟩,
  ⟨some 6, .new [(I 0), (I 0), (I 0), (I 0), (I 0), (I 0), (I 0), (.bool false), (.slice none 0 0), (.slice none 0 0), E, (.bool false)], none⟩,
  ⟨none, .store 12 (.tmp 6) (.tmp 27), none⟩,
  ⟨some 7, .mov (.tmp 28), none⟩]) (
 .seq (.seq (.ops [⟨some 29, .mov (.tmp 5), none⟩,
  ⟨some 30, .load true 12 (.tmp 3), none⟩,
  ⟨some 31, .call n_spec_MessageOk [(.tmp 30)], none⟩,
  ⟨some 32, .bin .neq (some [.self]) (.tmp 29) (.tmp 31), none⟩,
  ⟨some 33, .mov (.tmp 32), none⟩,
  ⟨some 34, .load true 12 (.tmp 3), some (33, false)⟩,
  ⟨some 35, .call n_impl_MessageOk [(.tmp 34)], some (33, false)⟩,
  ⟨some 36, .mov (.tmp 5), some (33, false)⟩,
  ⟨some 37, .bin .neq (some [.self]) (.tmp 35) (.tmp 36), some (33, false)⟩,
  ⟨some 38, .pick (.tmp 33) (.const (.bool true)) (.tmp 37), none⟩,
  ⟨some 39, .mov (.tmp 38), none⟩,
  ⟨some 40, .mov (.tmp 5), some (39, false)⟩,
  ⟨some 41, .mov (.tmp 40), some (39, false)⟩,
  ⟨some 42, .mov (.tmp 7), some (41, true)⟩,
  ⟨some 43, .un .not (.tmp 42), some (41, true)⟩,
  ⟨some 44, .mov (.tmp 43), some (41, true)⟩,
  ⟨some 45, .load true 12 (.tmp 6), some (44, false)⟩,
  ⟨some 46, .load true 12 (.tmp 3), some (44, false)⟩,
  ⟨some 47, .call n_laws_sameMessage [(.tmp 45), (.tmp 46)], some (44, false)⟩,
  ⟨some 48, .un .not (.tmp 47), some (44, false)⟩,
  ⟨some 49, .pick (.tmp 44) (.const (.bool true)) (.tmp 48), some (41, true)⟩,
  ⟨some 50, .pick (.tmp 41) (.tmp 49) (.const (.bool false)), some (39, false)⟩,
  ⟨some 51, .pick (.tmp 39) (.const (.bool true)) (.tmp 50), none⟩]) (
 .cond (.tmp 51) (.seq (.ops [⟨some 2, .mov (.const (.bool false)), none⟩]) (
 .ret)) (
 .skip))) (
 .seq (.ops [⟨some 52, .mov (.tmp 0), none⟩,
  ⟨some 53, .call n_spec_DrawDecode [(.tmp 52)], none⟩,
  ⟨some 8, .mov (.tmp 53), none⟩]) (
 .seq (.ops [⟨some 55, .mov (.tmp 8), none⟩,
  ⟨some 56, .call n_impl_Decode [(.tmp 55)], none⟩,
  ⟨some 54, .mov (.tmp 56), none⟩,
  ⟨some 57, .extract 0 (.tmp 54), none⟩,
  ⟨some 58, .extract 1 (.tmp 54), none⟩,
  ⟨some 9, .new [(I 0), (I 0), (I 0), (I 0), (I 0), (I 0), (I 0), (.bool false), (.slice none 0 0), (.slice none 0 0), E, (.bool false)], none⟩,
  ⟨none, .store 12 (.tmp 9) (.tmp 57), none⟩,
  ⟨some 10, .mov (.tmp 58), none⟩]) (
 .seq (.ops [⟨some 60, .mov (.tmp 8), none⟩,
  ⟨some 61, .call n_spec_Decode [(.tmp 60)], none⟩,
  ⟨some 59, .mov (.tmp 61), none⟩,
  ⟨some 62, .extract 0 (.tmp 59), none⟩,
  ⟨some 63, .extract 1 (.tmp 59), none⟩,
  ⟨some 11, .new [(I 0), (I 0), (I 0), (I 0), (I 0), (I 0), (I 0), (.bool false), (.slice none 0 0), (.slice none 0 0), E, (.bool false)], none⟩,
  ⟨none, .store 12 (.tmp 11) (.tmp 62), none⟩,
  ⟨some 12, .mov (.tmp 63), none⟩]) (
 .seq (.ops [⟨some 65, .load true 12 (.tmp 9), none⟩,
  ⟨some 66, .call n_impl_Encode [(.tmp 65)], none⟩,
  ⟨some 64, .mov (.tmp 66), none⟩,
  ⟨some 67, .extract 0 (.tmp 64), none⟩,
  ⟨some 68, .extract 1 (.tmp 64), none⟩,
  ⟨some 13, .mov (.tmp 67), none⟩,
  ⟨some 14, .mov (.tmp 68), none⟩]) (
 .seq (.ops [⟨some 69, .mov (.tmp 10), none⟩,
  ⟨some 70, .mov (.tmp 12), none⟩,
  ⟨some 71, .bin .eql (some [.self]) (.tmp 69) (.tmp 70), none⟩,
  ⟨some 72, .mov (.tmp 71), none⟩,
  ⟨some 73, .mov (.tmp 10), some (72, true)⟩,
  ⟨some 74, .un .not (.tmp 73), some (72, true)⟩,
  ⟨some 75, .mov (.tmp 74), some (72, true)⟩,
  ⟨some 76, .mov (.tmp 13), some (75, false)⟩,
  ⟨some 77, .mov (.tmp 8), some (75, false)⟩,
  ⟨some 78, .bin .eql none (.tmp 76) (.tmp 77), some (75, false)⟩,
  ⟨some 79, .pick (.tmp 75) (.const (.bool true)) (.tmp 78), some (72, true)⟩,
  ⟨some 80, .pick (.tmp 72) (.tmp 79) (.const (.bool false)), none⟩,
  ⟨some 2, .mov (.tmp 80), none⟩]) (
 .ret))))))))))),
 81, [.tmp 2]⟩

def g_laws_eqIntS_L0 : SC := .seq (.seq (.ops [⟨some 11, .mov (.tmp 5), none⟩,
  ⟨some 12, .mov (.tmp 0), none⟩,
  ⟨some 13, .len false (.tmp 12), none⟩,
  ⟨some 14, .bin .lss none (.tmp 11) (.tmp 13), none⟩]) (
 .cond (.tmp 14) (.skip) (
 .exit 0))) (
 .seq (.block 1 (.seq (.draw [(⟨some 17, .mov (.tmp 0), none⟩, none),
  (⟨some 18, .mov (.tmp 5), none⟩, none),
  (⟨some 19, .idxAddr 1 (.tmp 17) (.tmp 18), none⟩, none),
  (⟨some 20, .load false 1 (.tmp 19), none⟩, some (3, [], [])),
  (⟨some 21, .mov (.tmp 1), none⟩, none),
  (⟨some 22, .mov (.tmp 5), none⟩, none),
  (⟨some 23, .idxAddr 1 (.tmp 21) (.tmp 22), none⟩, none),
  (⟨some 24, .load false 1 (.tmp 23), none⟩, some (7, [], [3])),
  (⟨some 25, .bin .neq none (.tmp 20) (.tmp 24), none⟩, none)]) (
 .cond (.tmp 25) (.seq (.ops [⟨some 4, .mov (.const (.bool false)), none⟩]) (
 .ret)) (
 .skip)))) (
 .ops [⟨some 15, .mov (.tmp 5), none⟩,
  ⟨some 16, .bin .add none (.tmp 15) (.const (I 1)), none⟩,
  ⟨some 5, .mov (.tmp 16), none⟩]))

def g_laws_eqIntS : SFn := ⟨.seq (.ops [⟨some 4, .mov (.const (.bool false)), none⟩]) (
 .seq (.seq (.ops [⟨some 6, .mov (.tmp 0), none⟩,
  ⟨some 7, .len false (.tmp 6), none⟩,
  ⟨some 8, .mov (.tmp 1), none⟩,
  ⟨some 9, .len false (.tmp 8), none⟩,
  ⟨some 10, .bin .neq none (.tmp 7) (.tmp 9), none⟩]) (
 .cond (.tmp 10) (.seq (.ops [⟨some 4, .mov (.const (.bool false)), none⟩]) (
 .ret)) (
 .skip))) (
 .seq (.seq (.ops [⟨some 5, .mov (.const (I 0)), none⟩]) (
 .block 0 (.loop g_laws_eqIntS_L0))) (
 .seq (.ops [⟨some 4, .mov (.const (.bool true)), none⟩]) (
 .ret)))),
 26, [.tmp 4]⟩

def g_laws_markIntS_L0 : SC := .seq (.seq (.ops [⟨some 6, .mov (.tmp 5), none⟩,
  ⟨some 7, .mov (.tmp 0), none⟩,
  ⟨some 8, .len false (.tmp 7), none⟩,
  ⟨some 9, .bin .lss none (.tmp 6) (.tmp 8), none⟩]) (
 .cond (.tmp 9) (.skip) (
 .exit 0))) (
 .seq (.block 1 (.seq (.ops [⟨some 12, .mov (.tmp 0), none⟩,
  ⟨some 13, .mov (.tmp 5), none⟩,
  ⟨some 14, .mov (.tmp 1), none⟩,
  ⟨some 15, .idxAddr 1 (.tmp 12) (.tmp 13), none⟩,
  ⟨none, .store 1 (.tmp 15) (.tmp 14), none⟩]) (
 .ops [⟨some 16, .mov (.tmp 1), none⟩,
  ⟨some 17, .bin .add none (.tmp 16) (.const (I 1)), none⟩,
  ⟨some 1, .mov (.tmp 17), none⟩]))) (
 .ops [⟨some 10, .mov (.tmp 5), none⟩,
  ⟨some 11, .bin .add none (.tmp 10) (.const (I 1)), none⟩,
  ⟨some 5, .mov (.tmp 11), none⟩]))

def g_laws_markIntS : SFn := ⟨.seq (.ops [⟨some 4, .mov (.const (I 0)), none⟩]) (
 .seq (.seq (.ops [⟨some 5, .mov (.const (I 0)), none⟩]) (
 .block 0 (.loop g_laws_markIntS_L0))) (
 .seq (.ops [⟨some 18, .mov (.tmp 1), none⟩,
  ⟨some 4, .mov (.tmp 18), none⟩]) (
 .ret))),
 19, [.tmp 4]⟩

def g_laws_heldIntS_L0 : SC := .seq (.seq (.ops [⟨some 6, .mov (.tmp 5), none⟩,
  ⟨some 7, .mov (.tmp 0), none⟩,
  ⟨some 8, .len false (.tmp 7), none⟩,
  ⟨some 9, .bin .lss none (.tmp 6) (.tmp 8), none⟩]) (
 .cond (.tmp 9) (.skip) (
 .exit 0))) (
 .seq (.block 1 (.seq (.seq (.ops [⟨some 12, .mov (.tmp 0), none⟩,
  ⟨some 13, .mov (.tmp 5), none⟩,
  ⟨some 14, .idxAddr 1 (.tmp 12) (.tmp 13), none⟩,
  ⟨some 15, .load false 1 (.tmp 14), none⟩,
  ⟨some 16, .mov (.tmp 1), none⟩,
  ⟨some 17, .bin .neq none (.tmp 15) (.tmp 16), none⟩]) (
 .cond (.tmp 17) (.seq (.ops [⟨some 4, .mov (.const (I (-1))), none⟩]) (
 .ret)) (
 .skip))) (
 .ops [⟨some 18, .mov (.tmp 1), none⟩,
  ⟨some 19, .bin .add none (.tmp 18) (.const (I 1)), none⟩,
  ⟨some 1, .mov (.tmp 19), none⟩]))) (
 .ops [⟨some 10, .mov (.tmp 5), none⟩,
  ⟨some 11, .bin .add none (.tmp 10) (.const (I 1)), none⟩,
  ⟨some 5, .mov (.tmp 11), none⟩]))

def g_laws_heldIntS : SFn := ⟨.seq (.ops [⟨some 4, .mov (.const (I 0)), none⟩]) (
 .seq (.seq (.ops [⟨some 5, .mov (.const (I 0)), none⟩]) (
 .block 0 (.loop g_laws_heldIntS_L0))) (
 .seq (.ops [⟨some 20, .mov (.tmp 1), none⟩,
  ⟨some 4, .mov (.tmp 20), none⟩]) (
 .ret))),
 21, [.tmp 4]⟩

def g_spec_Decode_L0 : SC := .seq (.seq (.ops [⟨some 56, .mov (.tmp 8), none⟩,
  ⟨some 57, .mov (.tmp 7), none⟩,
  ⟨some 58, .bin .lss none (.tmp 56) (.tmp 57), none⟩,
  ⟨some 59, .mov (.tmp 58), none⟩,
  ⟨some 60, .mov (.tmp 4), some (59, true)⟩,
  ⟨some 61, .nilChk (.tmp 60), some (59, true)⟩,
  ⟨some 62, .fieldAddr 2 (.tmp 61), some (59, true)⟩,
  ⟨some 63, .load false 1 (.tmp 62), some (59, true)⟩,
  ⟨some 64, .un .not (.tmp 63), some (59, true)⟩,
  ⟨some 65, .pick (.tmp 59) (.tmp 64) (.const (.bool false)), none⟩,
  ⟨some 66, .mov (.tmp 65), none⟩,
  ⟨some 67, .mov (.tmp 8), some (66, true)⟩,
  ⟨some 68, .bin .leq none (.tmp 67) (.const (I 4)), some (66, true)⟩,
  ⟨some 69, .pick (.tmp 66) (.tmp 68) (.const (.bool false)), none⟩]) (
 .cond (.tmp 69) (.skip) (
 .exit 0))) (
 .seq (.block 1 (.seq (.ops [⟨some 73, .mov (.tmp 4), none⟩,
  ⟨some 74, .call n_spec_l05ReadShort [(.tmp 73)], none⟩,
  ⟨some 75, .call n_spec_ReadEntry [(.tmp 74)], none⟩,
  ⟨some 72, .mov (.tmp 75), none⟩,
  ⟨some 76, .extract 0 (.tmp 72), none⟩,
  ⟨some 77, .extract 1 (.tmp 72), none⟩,
  ⟨some 78, .extract 2 (.tmp 72), none⟩,
  ⟨some 10, .new [(I 0), (I 0), E], none⟩,
  ⟨some 9, .mov (.tmp 76), none⟩,
  ⟨none, .store 3 (.tmp 10) (.tmp 77), none⟩,
  ⟨some 11, .mov (.tmp 78), none⟩]) (
 .ops [⟨some 79, .fieldAddr 8 (.tmp 6), none⟩,
  ⟨some 80, .load false 1 (.tmp 79), none⟩,
  ⟨some 81, .load true 3 (.tmp 10), none⟩,
  ⟨some 82, .arr 3 [(I 0), (I 0), E] 1 [(0, 3, (.tmp 81))], none⟩,
  ⟨some 83, .append 3 32 [(I 0), (I 0), E] (.tmp 80) (.tmp 82), none⟩,
  ⟨some 84, .fieldAddr 8 (.tmp 6), none⟩,
  ⟨none, .store 1 (.tmp 84) (.tmp 83), none⟩]))) (
 .ops [⟨some 70, .mov (.tmp 8), none⟩,
  ⟨some 71, .bin .add none (.tmp 70) (.const (I 1)), none⟩,
  ⟨some 8, .mov (.tmp 71), none⟩]))

def g_spec_Decode : SFn := ⟨.seq (.ops [⟨some 2, .new [(I 0), (I 0), (I 0), (I 0), (I 0), (I 0), (I 0), (.bool false), (.slice none 0 0), (.slice none 0 0), E, (.bool false)], none⟩,
  ⟨some 3, .mov (.const (.bool false)), none⟩]) (
 .seq (.ops [⟨some 14, .mov (.tmp 0), none⟩,
  ⟨some 15, .build [E, (I 0), (.bool false)] [(0, 1, (.tmp 14))], none⟩,
  ⟨some 16, .box (.tmp 15), none⟩,
  ⟨some 4, .mov (.tmp 16), none⟩]) (
 .seq (.ops [⟨some 17, .mov (.tmp 4), none⟩,
  ⟨some 18, .call n_spec_l05Take [(.tmp 17), (.const (I 3))], none⟩,
  ⟨some 5, .mov (.tmp 18), none⟩]) (
 .seq (.seq (.ops [⟨some 19, .mov (.tmp 4), none⟩,
  ⟨some 20, .nilChk (.tmp 19), none⟩,
  ⟨some 21, .fieldAddr 2 (.tmp 20), none⟩,
  ⟨some 22, .load false 1 (.tmp 21), none⟩]) (
 .cond (.tmp 22) (.seq (.ops [⟨some 23, .build [(I 0), (I 0), (I 0), (I 0), (I 0), (I 0), (I 0), (.bool false), (.slice none 0 0), (.slice none 0 0), E, (.bool false)] [], none⟩,
  ⟨none, .store 12 (.tmp 2) (.tmp 23), none⟩,
  ⟨some 3, .mov (.const (.bool false)), none⟩]) (
 .ret)) (
 .skip))) (
 .seq (.draw [(⟨some 24, .mov (.tmp 5), none⟩, none),
  (⟨some 25, .idxStr (.tmp 24) (.const (I 0)), none⟩, none),
  (⟨some 26, .convInt .i64 (.tmp 25), none⟩, none),
  (⟨some 27, .mov (.tmp 5), none⟩, none),
  (⟨some 28, .idxStr (.tmp 27) (.const (I 1)), none⟩, none),
  (⟨some 29, .convInt .i64 (.tmp 28), none⟩, none),
  (⟨some 30, .mov (.tmp 5), none⟩, none),
  (⟨some 31, .idxStr (.tmp 30) (.const (I 2)), none⟩, none),
  (⟨some 32, .convInt .i64 (.tmp 31), none⟩, none),
  (⟨some 33, .build [(I 0), (I 0), (I 0), (I 0), (I 0), (I 0), (I 0), (.bool false), (.slice none 0 0), (.slice none 0 0), E, (.bool false)] [(0, 1, (.tmp 26)), (1, 1, (.tmp 29)), (2, 1, (.tmp 32))], none⟩, none),
  (⟨some 6, .new [(I 0), (I 0), (I 0), (I 0), (I 0), (I 0), (I 0), (.bool false), (.slice none 0 0), (.slice none 0 0), E, (.bool false)], none⟩, some (10, [], [])),
  (⟨none, .store 12 (.tmp 6) (.tmp 33), none⟩, some (11, [10], []))]) (
 .seq (.ops [⟨some 34, .mov (.tmp 4), none⟩,
  ⟨some 35, .call n_spec_l05Var [(.tmp 34)], none⟩,
  ⟨some 36, .fieldAddr 3 (.tmp 6), none⟩,
  ⟨none, .store 1 (.tmp 36) (.tmp 35), none⟩]) (
 .seq (.ops [⟨some 37, .mov (.tmp 4), none⟩,
  ⟨some 38, .call n_spec_l05Var [(.tmp 37)], none⟩,
  ⟨some 39, .fieldAddr 4 (.tmp 6), none⟩,
  ⟨none, .store 1 (.tmp 39) (.tmp 38), none⟩]) (
 .seq (.ops [⟨some 40, .mov (.tmp 4), none⟩,
  ⟨some 41, .call n_spec_l05Var [(.tmp 40)], none⟩,
  ⟨some 42, .fieldAddr 5 (.tmp 6), none⟩,
  ⟨none, .store 1 (.tmp 42) (.tmp 41), none⟩]) (
 .seq (.ops [⟨some 43, .mov (.tmp 4), none⟩,
  ⟨some 44, .call n_spec_l05Var [(.tmp 43)], none⟩,
  ⟨some 45, .fieldAddr 6 (.tmp 6), none⟩,
  ⟨none, .store 1 (.tmp 45) (.tmp 44), none⟩]) (
 .seq (.ops [⟨some 46, .mov (.tmp 4), none⟩,
  ⟨some 47, .call n_spec_l05Take [(.tmp 46), (.const (I 1))], none⟩,
  ⟨some 48, .bin .eql none (.tmp 47) (.const (T [1])), none⟩,
  ⟨some 49, .fieldAddr 7 (.tmp 6), none⟩,
  ⟨none, .store 1 (.tmp 49) (.tmp 48), none⟩]) (
 .seq (.ops [⟨some 50, .mov (.tmp 4), none⟩,
  ⟨some 51, .call n_spec_l05Take [(.tmp 50), (.const (I 1))], none⟩,
  ⟨some 52, .bin .eql none (.tmp 51) (.const (T [1])), none⟩,
  ⟨some 53, .fieldAddr 11 (.tmp 6), none⟩,
  ⟨none, .store 1 (.tmp 53) (.tmp 52), none⟩]) (
 .seq (.ops [⟨some 54, .mov (.tmp 4), none⟩,
  ⟨some 55, .call n_spec_l05Var [(.tmp 54)], none⟩,
  ⟨some 7, .mov (.tmp 55), none⟩]) (
 .seq (.seq (.ops [⟨some 8, .mov (.const (I 0)), none⟩]) (
 .block 0 (.loop g_spec_Decode_L0))) (
 .seq (.ops [⟨some 86, .mov (.tmp 4), none⟩,
  ⟨some 87, .call n_spec_l05ReadShort [(.tmp 86)], none⟩,
  ⟨some 88, .call n_spec_ReadConf [(.tmp 87)], none⟩,
  ⟨some 85, .mov (.tmp 88), none⟩,
  ⟨some 89, .extract 0 (.tmp 85), none⟩,
  ⟨some 90, .extract 1 (.tmp 85), none⟩,
  ⟨some 91, .fieldAddr 9 (.tmp 6), none⟩,
  ⟨none, .store 1 (.tmp 91) (.tmp 89), none⟩]) (
 .seq (.ops [⟨some 92, .mov (.tmp 4), none⟩,
  ⟨some 93, .call n_spec_l05ReadShort [(.tmp 92)], none⟩,
  ⟨some 94, .fieldAddr 10 (.tmp 6), none⟩,
  ⟨none, .store 1 (.tmp 94) (.tmp 93), none⟩]) (
 .seq (.ops [⟨some 96, .load true 12 (.tmp 6), none⟩,
  ⟨some 97, .call n_spec_Encode [(.tmp 96)], none⟩,
  ⟨some 95, .mov (.tmp 97), none⟩,
  ⟨some 98, .extract 0 (.tmp 95), none⟩,
  ⟨some 99, .extract 1 (.tmp 95), none⟩,
  ⟨some 12, .mov (.tmp 98), none⟩,
  ⟨some 13, .mov (.tmp 99), none⟩]) (
 .seq (.seq (.ops [⟨some 100, .mov (.tmp 4), none⟩,
  ⟨some 101, .nilChk (.tmp 100), none⟩,
  ⟨some 102, .fieldAddr 2 (.tmp 101), none⟩,
  ⟨some 103, .load false 1 (.tmp 102), none⟩,
  ⟨some 104, .mov (.tmp 103), none⟩,
  ⟨some 105, .mov (.tmp 13), some (104, false)⟩,
  ⟨some 106, .un .not (.tmp 105), some (104, false)⟩,
  ⟨some 107, .pick (.tmp 104) (.const (.bool true)) (.tmp 106), none⟩,
  ⟨some 108, .mov (.tmp 107), none⟩,
  ⟨some 109, .mov (.tmp 12), some (108, false)⟩,
  ⟨some 110, .mov (.tmp 0), some (108, false)⟩,
  ⟨some 111, .bin .neq none (.tmp 109) (.tmp 110), some (108, false)⟩,
  ⟨some 112, .pick (.tmp 108) (.const (.bool true)) (.tmp 111), none⟩]) (
 .cond (.tmp 112) (.seq (.ops [⟨some 113, .build [(I 0), (I 0), (I 0), (I 0), (I 0), (I 0), (I 0), (.bool false), (.slice none 0 0), (.slice none 0 0), E, (.bool false)] [], none⟩,
  ⟨none, .store 12 (.tmp 2) (.tmp 113), none⟩,
  ⟨some 3, .mov (.const (.bool false)), none⟩]) (
 .ret)) (
 .skip))) (
 .seq (.ops [⟨some 114, .load true 12 (.tmp 6), none⟩,
  ⟨none, .store 12 (.tmp 2) (.tmp 114), none⟩,
  ⟨some 3, .mov (.const (.bool true)), none⟩]) (
 .ret)))))))))))))))))),
 115, [.cell true 12 2, .tmp 3]⟩

def g_impl_Decode_L0 : SC := .seq (.ops [⟨some 48, .bin .lss none (.tmp 47) (.tmp 46), none⟩]) (
 .seq (.cond (.tmp 48) (.skip) (
 .exit 0)) (
 .seq (.block 1 (.seq (.ops [⟨some 49, .mov (.tmp 4), none⟩,
  ⟨some 50, .call n_impl_scan_short [(.tmp 49)], none⟩,
  ⟨some 7, .mov (.tmp 50), none⟩]) (
 .seq (.ops [⟨some 52, .mov (.tmp 7), none⟩,
  ⟨some 53, .call n_impl_ReadEntry [(.tmp 52)], none⟩,
  ⟨some 51, .mov (.tmp 53), none⟩,
  ⟨some 54, .extract 0 (.tmp 51), none⟩,
  ⟨some 55, .extract 1 (.tmp 51), none⟩,
  ⟨some 56, .extract 2 (.tmp 51), none⟩,
  ⟨some 9, .new [(I 0), (I 0), E], none⟩,
  ⟨some 8, .mov (.tmp 54), none⟩,
  ⟨none, .store 3 (.tmp 9) (.tmp 55), none⟩,
  ⟨some 10, .mov (.tmp 56), none⟩]) (
 .seq (.seq (.ops [⟨some 57, .mov (.tmp 10), none⟩,
  ⟨some 58, .un .not (.tmp 57), none⟩,
  ⟨some 59, .mov (.tmp 58), none⟩,
  ⟨some 60, .mov (.tmp 8), some (59, false)⟩,
  ⟨some 61, .bin .neq none (.tmp 60) (.const (I 1)), some (59, false)⟩,
  ⟨some 62, .pick (.tmp 59) (.const (.bool true)) (.tmp 61), none⟩]) (
 .cond (.tmp 62) (.seq (.ops [⟨some 63, .build [(I 0), (I 0), (I 0), (I 0), (I 0), (I 0), (I 0), (.bool false), (.slice none 0 0), (.slice none 0 0), E, (.bool false)] [], none⟩,
  ⟨none, .store 12 (.tmp 2) (.tmp 63), none⟩,
  ⟨some 3, .mov (.const (.bool false)), none⟩]) (
 .ret)) (
 .skip))) (
 .ops [⟨some 64, .fieldAddr 8 (.tmp 5), none⟩,
  ⟨some 65, .load false 1 (.tmp 64), none⟩,
  ⟨some 66, .load true 3 (.tmp 9), none⟩,
  ⟨some 67, .arr 3 [(I 0), (I 0), E] 1 [(0, 3, (.tmp 66))], none⟩,
  ⟨some 68, .append 3 32 [(I 0), (I 0), E] (.tmp 65) (.tmp 67), none⟩,
  ⟨some 69, .fieldAddr 8 (.tmp 5), none⟩,
  ⟨none, .store 1 (.tmp 69) (.tmp 68), none⟩]))))) (
 .ops [⟨some 70, .bin .add none (.tmp 47) (.const (I 1)), none⟩,
  ⟨some 47, .mov (.tmp 70), none⟩])))

def g_impl_Decode_L1 : SC := .seq (.seq (.ops [⟨some 73, .mov (.tmp 12), none⟩,
  ⟨some 74, .mov (.tmp 11), none⟩,
  ⟨some 75, .len true (.tmp 74), none⟩,
  ⟨some 76, .bin .lss none (.tmp 73) (.tmp 75), none⟩]) (
 .cond (.tmp 76) (.skip) (
 .exit 2))) (
 .seq (.block 3 (.draw [(⟨some 79, .fieldAddr 9 (.tmp 5), none⟩, none),
  (⟨some 80, .load false 1 (.tmp 79), none⟩, some (1, [], [])),
  (⟨some 81, .mov (.tmp 11), none⟩, none),
  (⟨some 82, .mov (.tmp 12), none⟩, none),
  (⟨some 83, .idxStr (.tmp 81) (.tmp 82), none⟩, none),
  (⟨some 84, .convInt .i64 (.tmp 83), none⟩, none),
  (⟨some 85, .arr 1 [(I 0)] 1 [(0, 1, (.tmp 84))], none⟩, some (6, [], [1])),
  (⟨some 86, .append 1 8 [(I 0)] (.tmp 80) (.tmp 85), none⟩, some (7, [6, 1], [])),
  (⟨some 87, .fieldAddr 9 (.tmp 5), none⟩, none),
  (⟨none, .store 1 (.tmp 87) (.tmp 86), none⟩, some (9, [7, 6, 1], []))])) (
 .ops [⟨some 77, .mov (.tmp 12), none⟩,
  ⟨some 78, .bin .add none (.tmp 77) (.const (I 1)), none⟩,
  ⟨some 12, .mov (.tmp 78), none⟩]))

def g_impl_Decode : SFn := ⟨.seq (.ops [⟨some 2, .new [(I 0), (I 0), (I 0), (I 0), (I 0), (I 0), (I 0), (.bool false), (.slice none 0 0), (.slice none 0 0), E, (.bool false)], none⟩,
  ⟨some 3, .mov (.const (.bool false)), none⟩]) (
 .seq (.ops [⟨some 13, .mov (.tmp 0), none⟩,
  ⟨some 14, .build [E, (I 0), (.bool false)] [(0, 1, (.tmp 13))], none⟩,
  ⟨some 15, .box (.tmp 14), none⟩,
  ⟨some 4, .mov (.tmp 15), none⟩]) (
 .seq (.ops [⟨some 16, .build [(I 0), (I 0), (I 0), (I 0), (I 0), (I 0), (I 0), (.bool false), (.slice none 0 0), (.slice none 0 0), E, (.bool false)] [], none⟩,
  ⟨some 5, .new [(I 0), (I 0), (I 0), (I 0), (I 0), (I 0), (I 0), (.bool false), (.slice none 0 0), (.slice none 0 0), E, (.bool false)], none⟩,
  ⟨none, .store 12 (.tmp 5) (.tmp 16), none⟩]) (
 .seq (.ops [⟨some 17, .mov (.tmp 4), none⟩,
  ⟨some 18, .call n_impl_scan_one [(.tmp 17)], none⟩,
  ⟨some 19, .fieldAddr 0 (.tmp 5), none⟩,
  ⟨none, .store 1 (.tmp 19) (.tmp 18), none⟩]) (
 .seq (.ops [⟨some 20, .mov (.tmp 4), none⟩,
  ⟨some 21, .call n_impl_scan_one [(.tmp 20)], none⟩,
  ⟨some 22, .fieldAddr 1 (.tmp 5), none⟩,
  ⟨none, .store 1 (.tmp 22) (.tmp 21), none⟩]) (
 .seq (.ops [⟨some 23, .mov (.tmp 4), none⟩,
  ⟨some 24, .call n_impl_scan_one [(.tmp 23)], none⟩,
  ⟨some 25, .fieldAddr 2 (.tmp 5), none⟩,
  ⟨none, .store 1 (.tmp 25) (.tmp 24), none⟩]) (
 .seq (.ops [⟨some 26, .mov (.tmp 4), none⟩,
  ⟨some 27, .call n_impl_scan_number [(.tmp 26)], none⟩,
  ⟨some 28, .fieldAddr 3 (.tmp 5), none⟩,
  ⟨none, .store 1 (.tmp 28) (.tmp 27), none⟩]) (
 .seq (.ops [⟨some 29, .mov (.tmp 4), none⟩,
  ⟨some 30, .call n_impl_scan_number [(.tmp 29)], none⟩,
  ⟨some 31, .fieldAddr 4 (.tmp 5), none⟩,
  ⟨none, .store 1 (.tmp 31) (.tmp 30), none⟩]) (
 .seq (.ops [⟨some 32, .mov (.tmp 4), none⟩,
  ⟨some 33, .call n_impl_scan_number [(.tmp 32)], none⟩,
  ⟨some 34, .fieldAddr 5 (.tmp 5), none⟩,
  ⟨none, .store 1 (.tmp 34) (.tmp 33), none⟩]) (
 .seq (.ops [⟨some 35, .mov (.tmp 4), none⟩,
  ⟨some 36, .call n_impl_scan_number [(.tmp 35)], none⟩,
  ⟨some 37, .fieldAddr 6 (.tmp 5), none⟩,
  ⟨none, .store 1 (.tmp 37) (.tmp 36), none⟩]) (
 .seq (.ops [⟨some 38, .mov (.tmp 4), none⟩,
  ⟨some 39, .call n_impl_scan_sign [(.tmp 38)], none⟩,
  ⟨some 40, .fieldAddr 7 (.tmp 5), none⟩,
  ⟨none, .store 1 (.tmp 40) (.tmp 39), none⟩]) (
 .seq (.ops [⟨some 41, .mov (.tmp 4), none⟩,
  ⟨some 42, .call n_impl_scan_sign [(.tmp 41)], none⟩,
  ⟨some 43, .fieldAddr 11 (.tmp 5), none⟩,
  ⟨none, .store 1 (.tmp 43) (.tmp 42), none⟩]) (
 .seq (.ops [⟨some 44, .mov (.tmp 4), none⟩,
  ⟨some 45, .call n_impl_scan_count [(.tmp 44), (.const (I 4))], none⟩,
  ⟨some 6, .mov (.tmp 45), none⟩]) (
 .seq (.seq (.ops [⟨some 46, .mov (.tmp 6), none⟩,
  ⟨some 47, .mov (.const (I 0)), none⟩]) (
 .block 0 (.loop g_impl_Decode_L0))) (
 .seq (.ops [⟨some 71, .mov (.tmp 4), none⟩,
  ⟨some 72, .call n_impl_scan_short [(.tmp 71)], none⟩,
  ⟨some 11, .mov (.tmp 72), none⟩]) (
 .seq (.seq (.ops [⟨some 12, .mov (.const (I 0)), none⟩]) (
 .block 2 (.loop g_impl_Decode_L1))) (
 .seq (.ops [⟨some 88, .mov (.tmp 4), none⟩,
  ⟨some 89, .call n_impl_scan_short [(.tmp 88)], none⟩,
  ⟨some 90, .fieldAddr 10 (.tmp 5), none⟩,
  ⟨none, .store 1 (.tmp 90) (.tmp 89), none⟩]) (
 .seq (.seq (.ops [⟨some 91, .mov (.tmp 4), none⟩,
  ⟨some 92, .call n_impl_scan_done [(.tmp 91)], none⟩,
  ⟨some 93, .un .not (.tmp 92), none⟩,
  ⟨some 94, .mov (.tmp 93), none⟩,
  ⟨some 95, .load true 12 (.tmp 5), some (94, false)⟩,
  ⟨some 96, .call n_impl_MessageOk [(.tmp 95)], some (94, false)⟩,
  ⟨some 97, .un .not (.tmp 96), some (94, false)⟩,
  ⟨some 98, .pick (.tmp 94) (.const (.bool true)) (.tmp 97), none⟩]) (
 .cond (.tmp 98) (.seq (.ops [⟨some 99, .build [(I 0), (I 0), (I 0), (I 0), (I 0), (I 0), (I 0), (.bool false), (.slice none 0 0), (.slice none 0 0), E, (.bool false)] [], none⟩,
  ⟨none, .store 12 (.tmp 2) (.tmp 99), none⟩,
  ⟨some 3, .mov (.const (.bool false)), none⟩]) (
 .ret)) (
 .skip))) (
 .seq (.ops [⟨some 100, .load true 12 (.tmp 5), none⟩,
  ⟨none, .store 12 (.tmp 2) (.tmp 100), none⟩,
  ⟨some 3, .mov (.const (.bool true)), none⟩]) (
 .ret))))))))))))))))))),
 101, [.cell true 12 2, .tmp 3]⟩

def g_laws_eqMessage : SFn := ⟨.seq (.ops [⟨some 2, .box (.tmp 0), none⟩,
  ⟨some 3, .box (.tmp 1), none⟩,
  ⟨some 4, .mov (.const (.bool false)), none⟩]) (
 .seq (.seq (.ops [⟨some 5, .fieldAddr 0 (.tmp 2), none⟩,
  ⟨some 6, .load false 1 (.tmp 5), none⟩,
  ⟨some 7, .fieldAddr 0 (.tmp 3), none⟩,
  ⟨some 8, .load false 1 (.tmp 7), none⟩,
  ⟨some 9, .bin .neq none (.tmp 6) (.tmp 8), none⟩]) (
 .cond (.tmp 9) (.seq (.ops [⟨some 4, .mov (.const (.bool false)), none⟩]) (
 .ret)) (
 .skip))) (
 .seq (.seq (.ops [⟨some 10, .fieldAddr 1 (.tmp 2), none⟩,
  ⟨some 11, .load false 1 (.tmp 10), none⟩,
  ⟨some 12, .fieldAddr 1 (.tmp 3), none⟩,
  ⟨some 13, .load false 1 (.tmp 12), none⟩,
  ⟨some 14, .bin .neq none (.tmp 11) (.tmp 13), none⟩]) (
 .cond (.tmp 14) (.seq (.ops [⟨some 4, .mov (.const (.bool false)), none⟩]) (
 .ret)) (
 .skip))) (
 .seq (.seq (.ops [⟨some 15, .fieldAddr 2 (.tmp 2), none⟩,
  ⟨some 16, .load false 1 (.tmp 15), none⟩,
  ⟨some 17, .fieldAddr 2 (.tmp 3), none⟩,
  ⟨some 18, .load false 1 (.tmp 17), none⟩,
  ⟨some 19, .bin .neq none (.tmp 16) (.tmp 18), none⟩]) (
 .cond (.tmp 19) (.seq (.ops [⟨some 4, .mov (.const (.bool false)), none⟩]) (
 .ret)) (
 .skip))) (
 .seq (.seq (.ops [⟨some 20, .fieldAddr 3 (.tmp 2), none⟩,
  ⟨some 21, .load false 1 (.tmp 20), none⟩,
  ⟨some 22, .fieldAddr 3 (.tmp 3), none⟩,
  ⟨some 23, .load false 1 (.tmp 22), none⟩,
  ⟨some 24, .bin .neq none (.tmp 21) (.tmp 23), none⟩]) (
 .cond (.tmp 24) (.seq (.ops [⟨some 4, .mov (.const (.bool false)), none⟩]) (
 .ret)) (
 .skip))) (
 .seq (.seq (.ops [⟨some 25, .fieldAddr 4 (.tmp 2), none⟩,
  ⟨some 26, .load false 1 (.tmp 25), none⟩,
  ⟨some 27, .fieldAddr 4 (.tmp 3), none⟩,
  ⟨some 28, .load false 1 (.tmp 27), none⟩,
  ⟨some 29, .bin .neq none (.tmp 26) (.tmp 28), none⟩]) (
 .cond (.tmp 29) (.seq (.ops [⟨some 4, .mov (.const (.bool false)), none⟩]) (
 .ret)) (
 .skip))) (
 .seq (.seq (.ops [⟨some 30, .fieldAddr 5 (.tmp 2), none⟩,
  ⟨some 31, .load false 1 (.tmp 30), none⟩,
  ⟨some 32, .fieldAddr 5 (.tmp 3), none⟩,
  ⟨some 33, .load false 1 (.tmp 32), none⟩,
  ⟨some 34, .bin .neq none (.tmp 31) (.tmp 33), none⟩]) (
 .cond (.tmp 34) (.seq (.ops [⟨some 4, .mov (.const (.bool false)), none⟩]) (
 .ret)) (
 .skip))) (
 .seq (.seq (.ops [⟨some 35, .fieldAddr 6 (.tmp 2), none⟩,
  ⟨some 36, .load false 1 (.tmp 35), none⟩,
  ⟨some 37, .fieldAddr 6 (.tmp 3), none⟩,
  ⟨some 38, .load false 1 (.tmp 37), none⟩,
  ⟨some 39, .bin .neq none (.tmp 36) (.tmp 38), none⟩]) (
 .cond (.tmp 39) (.seq (.ops [⟨some 4, .mov (.const (.bool false)), none⟩]) (
 .ret)) (
 .skip))) (
 .seq (.seq (.ops [⟨some 40, .fieldAddr 7 (.tmp 2), none⟩,
  ⟨some 41, .load false 1 (.tmp 40), none⟩,
  ⟨some 42, .fieldAddr 7 (.tmp 3), none⟩,
  ⟨some 43, .load false 1 (.tmp 42), none⟩,
  ⟨some 44, .bin .neq (some [.self]) (.tmp 41) (.tmp 43), none⟩]) (
 .cond (.tmp 44) (.seq (.ops [⟨some 4, .mov (.const (.bool false)), none⟩]) (
 .ret)) (
 .skip))) (
 .seq (.seq (.ops [⟨some 45, .fieldAddr 8 (.tmp 2), none⟩,
  ⟨some 46, .load false 1 (.tmp 45), none⟩,
  ⟨some 47, .fieldAddr 8 (.tmp 3), none⟩,
  ⟨some 48, .load false 1 (.tmp 47), none⟩,
  ⟨some 49, .call n_laws_eqEntryS [(.tmp 46), (.tmp 48)], none⟩,
  ⟨some 50, .un .not (.tmp 49), none⟩]) (
 .cond (.tmp 50) (.seq (.ops [⟨some 4, .mov (.const (.bool false)), none⟩]) (
 .ret)) (
 .skip))) (
 .seq (.seq (.ops [⟨some 51, .fieldAddr 9 (.tmp 2), none⟩,
  ⟨some 52, .load false 1 (.tmp 51), none⟩,
  ⟨some 53, .fieldAddr 9 (.tmp 3), none⟩,
  ⟨some 54, .load false 1 (.tmp 53), none⟩,
  ⟨some 55, .call n_laws_eqIntS [(.tmp 52), (.tmp 54)], none⟩,
  ⟨some 56, .un .not (.tmp 55), none⟩]) (
 .cond (.tmp 56) (.seq (.ops [⟨some 4, .mov (.const (.bool false)), none⟩]) (
 .ret)) (
 .skip))) (
 .seq (.seq (.ops [⟨some 57, .fieldAddr 10 (.tmp 2), none⟩,
  ⟨some 58, .load false 1 (.tmp 57), none⟩,
  ⟨some 59, .fieldAddr 10 (.tmp 3), none⟩,
  ⟨some 60, .load false 1 (.tmp 59), none⟩,
  ⟨some 61, .bin .neq none (.tmp 58) (.tmp 60), none⟩]) (
 .cond (.tmp 61) (.seq (.ops [⟨some 4, .mov (.const (.bool false)), none⟩]) (
 .ret)) (
 .skip))) (
 .seq (.seq (.ops [⟨some 62, .fieldAddr 11 (.tmp 2), none⟩,
  ⟨some 63, .load false 1 (.tmp 62), none⟩,
  ⟨some 64, .fieldAddr 11 (.tmp 3), none⟩,
  ⟨some 65, .load false 1 (.tmp 64), none⟩,
  ⟨some 66, .bin .neq (some [.self]) (.tmp 63) (.tmp 65), none⟩]) (
 .cond (.tmp 66) (.seq (.ops [⟨some 4, .mov (.const (.bool false)), none⟩]) (
 .ret)) (
 .skip))) (
 .seq (.ops [⟨some 4, .mov (.const (.bool true)), none⟩]) (
 .ret)))))))))))))),
 67, [.tmp 4]⟩

def g_laws_markMessage : SFn := ⟨.seq (.ops [⟨some 2, .box (.tmp 0), none⟩,
  ⟨some 4, .mov (.const (I 0)), none⟩]) (
 .seq (.ops [⟨some 5, .fieldAddr 8 (.tmp 2), none⟩,
  ⟨some 6, .load false 1 (.tmp 5), none⟩,
  ⟨some 7, .mov (.tmp 1), none⟩,
  ⟨some 8, .call n_laws_markEntryS [(.tmp 6), (.tmp 7)], none⟩,
  ⟨some 1, .mov (.tmp 8), none⟩]) (
 .seq (.ops [⟨some 9, .fieldAddr 9 (.tmp 2), none⟩,
  ⟨some 10, .load false 1 (.tmp 9), none⟩,
  ⟨some 11, .mov (.tmp 1), none⟩,
  ⟨some 12, .call n_laws_markIntS [(.tmp 10), (.tmp 11)], none⟩,
  ⟨some 1, .mov (.tmp 12), none⟩]) (
 .seq (.ops [⟨some 13, .mov (.tmp 1), none⟩,
  ⟨some 4, .mov (.tmp 13), none⟩]) (
 .ret)))),
 14, [.tmp 4]⟩

def g_laws_heldMessage : SFn := ⟨.seq (.ops [⟨some 2, .box (.tmp 0), none⟩,
  ⟨some 4, .mov (.const (I 0)), none⟩]) (
 .seq (.ops [⟨some 5, .fieldAddr 8 (.tmp 2), none⟩,
  ⟨some 6, .load false 1 (.tmp 5), none⟩,
  ⟨some 7, .mov (.tmp 1), none⟩,
  ⟨some 8, .call n_laws_heldEntryS [(.tmp 6), (.tmp 7)], none⟩,
  ⟨some 1, .mov (.tmp 8), none⟩]) (
 .seq (.seq (.ops [⟨some 9, .mov (.tmp 1), none⟩,
  ⟨some 10, .bin .lss none (.tmp 9) (.const (I 0)), none⟩]) (
 .cond (.tmp 10) (.seq (.ops [⟨some 4, .mov (.const (I (-1))), none⟩]) (
 .ret)) (
 .skip))) (
 .seq (.ops [⟨some 11, .fieldAddr 9 (.tmp 2), none⟩,
  ⟨some 12, .load false 1 (.tmp 11), none⟩,
  ⟨some 13, .mov (.tmp 1), none⟩,
  ⟨some 14, .call n_laws_heldIntS [(.tmp 12), (.tmp 13)], none⟩,
  ⟨some 1, .mov (.tmp 14), none⟩]) (
 .seq (.seq (.ops [⟨some 15, .mov (.tmp 1), none⟩,
  ⟨some 16, .bin .lss none (.tmp 15) (.const (I 0)), none⟩]) (
 .cond (.tmp 16) (.seq (.ops [⟨some 4, .mov (.const (I (-1))), none⟩]) (
 .ret)) (
 .skip))) (
 .seq (.ops [⟨some 17, .mov (.tmp 1), none⟩,
  ⟨some 4, .mov (.tmp 17), none⟩]) (
 .ret)))))),
 18, [.tmp 4]⟩

def g_laws_big : SFn := ⟨.seq (.ops [⟨some 2, .mov (.const (.bool false)), none⟩]) (
 .seq (.ops [⟨some 3, .mov (.tmp 0), none⟩,
  ⟨some 4, .len false (.tmp 3), none⟩,
  ⟨some 5, .bin .gtr none (.tmp 4) (.const (I 1048576)), none⟩,
  ⟨some 2, .mov (.tmp 5), none⟩]) (
 .ret)),
 6, [.tmp 2]⟩

def g_spec_DrawEncode : SFn := ⟨.seq (.ops [⟨some 2, .new [(I 0), (I 0), (I 0), (I 0), (I 0), (I 0), (I 0), (.bool false), (.slice none 0 0), (.slice none 0 0), E, (.bool false)], none⟩]) (
 .seq (.ops [⟨some 3, .mov (.tmp 0), none⟩,
  ⟨some 4, .call n_spec_l01New [(.tmp 3)], none⟩,
  ⟨some 5, .call n_spec_l17Any [(.tmp 4)], none⟩,
  ⟨none, .store 12 (.tmp 2) (.tmp 5), none⟩]) (
 .ret)),
 6, [.cell true 12 2]⟩

def g_impl_Encode_L0 : SC := .seq (.ops [⟨some 51, .bin .lss none (.tmp 50) (.tmp 49), none⟩]) (
 .seq (.cond (.tmp 51) (.skip) (
 .exit 0)) (
 .seq (.block 1 (.seq (.ops [⟨some 52, .idxAddr 3 (.tmp 48) (.tmp 50), none⟩,
  ⟨some 53, .load true 3 (.tmp 52), none⟩,
  ⟨some 6, .new [(I 0), (I 0), E], none⟩,
  ⟨none, .store 3 (.tmp 6) (.tmp 53), none⟩]) (
 .seq (.ops [⟨some 55, .load true 3 (.tmp 6), none⟩,
  ⟨some 56, .call n_impl_EntryText [(.const (I 1)), (.tmp 55)], none⟩,
  ⟨some 54, .mov (.tmp 56), none⟩,
  ⟨some 57, .extract 0 (.tmp 54), none⟩,
  ⟨some 58, .extract 1 (.tmp 54), none⟩,
  ⟨some 7, .mov (.tmp 57), none⟩,
  ⟨some 8, .mov (.tmp 58), none⟩]) (
 .ops [⟨some 59, .mov (.tmp 4), none⟩,
  ⟨some 60, .mov (.tmp 7), none⟩,
  ⟨some 61, .arr 1 [E] 1 [(0, 1, (.tmp 60))], none⟩,
  ⟨some 62, .call n_impl_shortTexts [(.tmp 61)], none⟩,
  ⟨some 63, .bin .add none (.tmp 59) (.tmp 62), none⟩,
  ⟨some 4, .mov (.tmp 63), none⟩])))) (
 .ops [⟨some 64, .bin .add none (.tmp 50) (.const (I 1)), none⟩,
  ⟨some 50, .mov (.tmp 64), none⟩])))

def g_impl_Encode : SFn := ⟨.seq (.ops [⟨some 1, .box (.tmp 0), none⟩,
  ⟨some 2, .mov (.const E), none⟩,
  ⟨some 3, .mov (.const (.bool false)), none⟩]) (
 .seq (.seq (.ops [⟨some 9, .load true 12 (.tmp 1), none⟩,
  ⟨some 10, .call n_impl_MessageOk [(.tmp 9)], none⟩,
  ⟨some 11, .un .not (.tmp 10), none⟩]) (
 .cond (.tmp 11) (.seq (.ops [⟨some 2, .mov (.const E), none⟩,
  ⟨some 3, .mov (.const (.bool false)), none⟩]) (
 .ret)) (
 .skip))) (
 .seq (.draw [(⟨some 12, .fieldAddr 0 (.tmp 1), none⟩, none),
  (⟨some 13, .load false 1 (.tmp 12), none⟩, some (1, [], [])),
  (⟨some 14, .fieldAddr 1 (.tmp 1), none⟩, none),
  (⟨some 15, .load false 1 (.tmp 14), none⟩, some (3, [], [1])),
  (⟨some 16, .fieldAddr 2 (.tmp 1), none⟩, none),
  (⟨some 17, .load false 1 (.tmp 16), none⟩, some (5, [], [3, 1])),
  (⟨some 18, .arr 1 [(I 0)] 3 [(0, 1, (.tmp 13)), (1, 1, (.tmp 15)), (2, 1, (.tmp 17))], none⟩, some (6, [5, 3, 1], [])),
  (⟨some 19, .call n_impl_byteTexts [(.tmp 18)], none⟩, some (7, [6, 5, 3, 1], [])),
  (⟨some 20, .fieldAddr 3 (.tmp 1), none⟩, none),
  (⟨some 21, .load false 1 (.tmp 20), none⟩, some (9, [], [7, 6, 5, 3, 1])),
  (⟨some 22, .fieldAddr 4 (.tmp 1), none⟩, none),
  (⟨some 23, .load false 1 (.tmp 22), none⟩, some (11, [], [9, 7, 6, 5, 3, 1])),
  (⟨some 24, .fieldAddr 5 (.tmp 1), none⟩, none),
  (⟨some 25, .load false 1 (.tmp 24), none⟩, some (13, [], [11, 9, 7, 6, 5, 3, 1])),
  (⟨some 26, .fieldAddr 6 (.tmp 1), none⟩, none),
  (⟨some 27, .load false 1 (.tmp 26), none⟩, some (15, [], [13, 11, 9, 7, 6, 5, 3, 1])),
  (⟨some 28, .arr 1 [(I 0)] 4 [(0, 1, (.tmp 21)), (1, 1, (.tmp 23)), (2, 1, (.tmp 25)), (3, 1, (.tmp 27))], none⟩, some (16, [15, 13, 11, 9], [7, 6, 5, 3, 1])),
  (⟨some 29, .call n_impl_varTexts [(.tmp 28)], none⟩, some (17, [16, 15, 13, 11, 9, 7, 6, 5, 3, 1], [])),
  (⟨some 30, .bin .add none (.tmp 19) (.tmp 29), none⟩, none),
  (⟨some 31, .fieldAddr 7 (.tmp 1), none⟩, none),
  (⟨some 32, .load false 1 (.tmp 31), none⟩, some (20, [], [17, 16, 15, 13, 11, 9, 7, 6, 5, 3, 1])),
  (⟨some 33, .call n_impl_flag [(.tmp 32)], none⟩, some (21, [20, 17, 16, 15, 13, 11, 9, 7, 6, 5, 3, 1], [])),
  (⟨some 34, .fieldAddr 11 (.tmp 1), none⟩, none),
  (⟨some 35, .load false 1 (.tmp 34), none⟩, some (23, [], [21, 20, 17, 16, 15, 13, 11, 9, 7, 6, 5, 3, 1])),
  (⟨some 36, .call n_impl_flag [(.tmp 35)], none⟩, some (24, [23, 21, 20, 17, 16, 15, 13, 11, 9, 7, 6, 5, 3, 1], [])),
  (⟨some 37, .arr 1 [(I 0)] 2 [(0, 1, (.tmp 33)), (1, 1, (.tmp 36))], none⟩, some (25, [24, 23, 21, 20, 17, 16, 15, 13, 11, 9, 7, 6, 5, 3, 1], [])),
  (⟨some 38, .call n_impl_byteTexts [(.tmp 37)], none⟩, some (26, [25, 24, 23, 21, 20, 17, 16, 15, 13, 11, 9, 7, 6, 5, 3, 1], [])),
  (⟨some 39, .bin .add none (.tmp 30) (.tmp 38), none⟩, none),
  (⟨some 4, .mov (.tmp 39), none⟩, none)]) (
 .seq (.ops [⟨some 40, .mov (.tmp 4), none⟩,
  ⟨some 41, .fieldAddr 8 (.tmp 1), none⟩,
  ⟨some 42, .load false 1 (.tmp 41), none⟩,
  ⟨some 43, .len false (.tmp 42), none⟩,
  ⟨some 44, .arr 1 [(I 0)] 1 [(0, 1, (.tmp 43))], none⟩,
  ⟨some 45, .call n_impl_varTexts [(.tmp 44)], none⟩,
  ⟨some 46, .bin .add none (.tmp 40) (.tmp 45), none⟩,
  ⟨some 4, .mov (.tmp 46), none⟩]) (
 .seq (.seq (.ops [⟨some 47, .fieldAddr 8 (.tmp 1), none⟩,
  ⟨some 48, .load false 1 (.tmp 47), none⟩,
  ⟨some 49, .len false (.tmp 48), none⟩,
  ⟨some 50, .mov (.const (I 0)), none⟩]) (
 .block 0 (.loop g_impl_Encode_L0))) (
 .seq (.draw [(⟨some 65, .mov (.tmp 4), none⟩, none),
  (⟨some 66, .fieldAddr 9 (.tmp 1), none⟩, none),
  (⟨some 67, .load false 1 (.tmp 66), none⟩, some (2, [], [])),
  (⟨some 68, .call n_impl_byteTexts [(.tmp 67)], none⟩, some (3, [2], [])),
  (⟨some 69, .fieldAddr 10 (.tmp 1), none⟩, none),
  (⟨some 70, .load false 1 (.tmp 69), none⟩, some (5, [], [3, 2])),
  (⟨some 71, .arr 1 [E] 2 [(0, 1, (.tmp 68)), (1, 1, (.tmp 70))], none⟩, some (6, [5, 3, 2], [])),
  (⟨some 72, .call n_impl_shortTexts [(.tmp 71)], none⟩, some (7, [6, 5, 3, 2], [])),
  (⟨some 73, .bin .add none (.tmp 65) (.tmp 72), none⟩, none),
  (⟨some 2, .mov (.tmp 73), none⟩, none),
  (⟨some 3, .mov (.const (.bool true)), none⟩, none)]) (
 .ret)))))),
 74, [.tmp 2, .tmp 3]⟩

def g_spec_MessageOk_L0 : SC := .seq (.seq (.ops [⟨some 67, .mov (.tmp 4), none⟩,
  ⟨some 68, .fieldAddr 8 (.tmp 1), none⟩,
  ⟨some 69, .load false 1 (.tmp 68), none⟩,
  ⟨some 70, .len false (.tmp 69), none⟩,
  ⟨some 71, .bin .lss none (.tmp 67) (.tmp 70), none⟩]) (
 .cond (.tmp 71) (.skip) (
 .exit 0))) (
 .seq (.block 1 (.seq (.seq (.draw [(⟨some 74, .fieldAddr 8 (.tmp 1), none⟩, none),
  (⟨some 75, .load false 1 (.tmp 74), none⟩, some (1, [], [])),
  (⟨some 76, .mov (.tmp 4), none⟩, none),
  (⟨some 77, .idxAddr 3 (.tmp 75) (.tmp 76), none⟩, none),
  (⟨some 78, .load true 3 (.tmp 77), none⟩, some (4, [1], [])),
  (⟨some 79, .call n_spec_EntryOk [(.tmp 78)], none⟩, some (5, [4, 1], [])),
  (⟨some 80, .un .not (.tmp 79), none⟩, none),
  (⟨some 81, .mov (.tmp 80), none⟩, none),
  (⟨some 82, .fieldAddr 8 (.tmp 1), some (81, false)⟩, none),
  (⟨some 83, .load false 1 (.tmp 82), some (81, false)⟩, some (9, [5, 4, 1], [])),
  (⟨some 84, .mov (.tmp 4), some (81, false)⟩, none),
  (⟨some 85, .idxAddr 3 (.tmp 83) (.tmp 84), some (81, false)⟩, none),
  (⟨some 86, .fieldAddr 0 (.tmp 85), some (81, false)⟩, none),
  (⟨some 87, .load false 1 (.tmp 86), some (81, false)⟩, some (13, [9, 5, 4, 1], [])),
  (⟨some 88, .mov (.tmp 3), some (81, false)⟩, none),
  (⟨some 89, .bin .lss none (.tmp 87) (.tmp 88), some (81, false)⟩, none),
  (⟨some 90, .pick (.tmp 81) (.const (.bool true)) (.tmp 89), none⟩, none),
  (⟨some 91, .mov (.tmp 90), none⟩, none),
  (⟨some 92, .fieldAddr 8 (.tmp 1), some (91, false)⟩, none),
  (⟨some 93, .load false 1 (.tmp 92), some (91, false)⟩, some (19, [13, 9, 5, 4, 1], [])),
  (⟨some 94, .mov (.tmp 4), some (91, false)⟩, none),
  (⟨some 95, .idxAddr 3 (.tmp 93) (.tmp 94), some (91, false)⟩, none),
  (⟨some 96, .fieldAddr 0 (.tmp 95), some (91, false)⟩, none),
  (⟨some 97, .load false 1 (.tmp 96), some (91, false)⟩, some (23, [19, 13, 9, 5, 4, 1], [])),
  (⟨some 98, .fieldAddr 3 (.tmp 1), some (91, false)⟩, none),
  (⟨some 99, .load false 1 (.tmp 98), some (91, false)⟩, some (25, [13, 9, 5, 4, 1], [23, 19])),
  (⟨some 100, .bin .gtr none (.tmp 97) (.tmp 99), some (91, false)⟩, none),
  (⟨some 101, .pick (.tmp 91) (.const (.bool true)) (.tmp 100), none⟩, none)]) (
 .cond (.tmp 101) (.seq (.ops [⟨some 2, .mov (.const (.bool false)), none⟩]) (
 .ret)) (
 .skip))) (
 .ops [⟨some 102, .fieldAddr 8 (.tmp 1), none⟩,
  ⟨some 103, .load false 1 (.tmp 102), none⟩,
  ⟨some 104, .mov (.tmp 4), none⟩,
  ⟨some 105, .idxAddr 3 (.tmp 103) (.tmp 104), none⟩,
  ⟨some 106, .fieldAddr 0 (.tmp 105), none⟩,
  ⟨some 107, .load false 1 (.tmp 106), none⟩,
  ⟨some 3, .mov (.tmp 107), none⟩]))) (
 .ops [⟨some 72, .mov (.tmp 4), none⟩,
  ⟨some 73, .bin .add none (.tmp 72) (.const (I 1)), none⟩,
  ⟨some 4, .mov (.tmp 73), none⟩]))

def g_spec_MessageOk : SFn := ⟨.seq (.ops [⟨some 1, .box (.tmp 0), none⟩,
  ⟨some 2, .mov (.const (.bool false)), none⟩]) (
 .seq (.seq (.ops [⟨some 5, .fieldAddr 0 (.tmp 1), none⟩,
  ⟨some 6, .load false 1 (.tmp 5), none⟩,
  ⟨some 7, .call n_spec_l01In [(.tmp 6), (.const (I 1)), (.const (I 6))], none⟩,
  ⟨some 8, .un .not (.tmp 7), none⟩,
  ⟨some 9, .mov (.tmp 8), none⟩,
  ⟨some 10, .fieldAddr 1 (.tmp 1), some (9, false)⟩,
  ⟨some 11, .load false 1 (.tmp 10), some (9, false)⟩,
  ⟨some 12, .call n_spec_l01In [(.tmp 11), (.const (I 1)), (.const (I 4))], some (9, false)⟩,
  ⟨some 13, .un .not (.tmp 12), some (9, false)⟩,
  ⟨some 14, .pick (.tmp 9) (.const (.bool true)) (.tmp 13), none⟩,
  ⟨some 15, .mov (.tmp 14), none⟩,
  ⟨some 16, .fieldAddr 2 (.tmp 1), some (15, false)⟩,
  ⟨some 17, .load false 1 (.tmp 16), some (15, false)⟩,
  ⟨some 18, .call n_spec_l01In [(.tmp 17), (.const (I 1)), (.const (I 4))], some (15, false)⟩,
  ⟨some 19, .un .not (.tmp 18), some (15, false)⟩,
  ⟨some 20, .pick (.tmp 15) (.const (.bool true)) (.tmp 19), none⟩,
  ⟨some 21, .mov (.tmp 20), none⟩,
  ⟨some 22, .fieldAddr 1 (.tmp 1), some (21, false)⟩,
  ⟨some 23, .load false 1 (.tmp 22), some (21, false)⟩,
  ⟨some 24, .fieldAddr 2 (.tmp 1), some (21, false)⟩,
  ⟨some 25, .load false 1 (.tmp 24), some (21, false)⟩,
  ⟨some 26, .bin .eql none (.tmp 23) (.tmp 25), some (21, false)⟩,
  ⟨some 27, .pick (.tmp 21) (.const (.bool true)) (.tmp 26), none⟩]) (
 .cond (.tmp 27) (.seq (.ops [⟨some 2, .mov (.const (.bool false)), none⟩]) (
 .ret)) (
 .skip))) (
 .seq (.seq (.ops [⟨some 28, .fieldAddr 3 (.tmp 1), none⟩,
  ⟨some 29, .load false 1 (.tmp 28), none⟩,
  ⟨some 30, .call n_spec_l01In [(.tmp 29), (.const (I 0)), (.const (I 100000))], none⟩,
  ⟨some 31, .un .not (.tmp 30), none⟩,
  ⟨some 32, .mov (.tmp 31), none⟩,
  ⟨some 33, .fieldAddr 5 (.tmp 1), some (32, false)⟩,
  ⟨some 34, .load false 1 (.tmp 33), some (32, false)⟩,
  ⟨some 35, .call n_spec_l01In [(.tmp 34), (.const (I 0)), (.const (I 100000))], some (32, false)⟩,
  ⟨some 36, .un .not (.tmp 35), some (32, false)⟩,
  ⟨some 37, .pick (.tmp 32) (.const (.bool true)) (.tmp 36), none⟩,
  ⟨some 38, .mov (.tmp 37), none⟩,
  ⟨some 39, .fieldAddr 4 (.tmp 1), some (38, false)⟩,
  ⟨some 40, .load false 1 (.tmp 39), some (38, false)⟩,
  ⟨some 41, .call n_spec_l01In [(.tmp 40), (.const (I 0)), (.const (I 1000000))], some (38, false)⟩,
  ⟨some 42, .un .not (.tmp 41), some (38, false)⟩,
  ⟨some 43, .pick (.tmp 38) (.const (.bool true)) (.tmp 42), none⟩,
  ⟨some 44, .mov (.tmp 43), none⟩,
  ⟨some 45, .fieldAddr 6 (.tmp 1), some (44, false)⟩,
  ⟨some 46, .load false 1 (.tmp 45), some (44, false)⟩,
  ⟨some 47, .call n_spec_l01In [(.tmp 46), (.const (I 0)), (.const (I 1000000))], some (44, false)⟩,
  ⟨some 48, .un .not (.tmp 47), some (44, false)⟩,
  ⟨some 49, .pick (.tmp 44) (.const (.bool true)) (.tmp 48), none⟩]) (
 .cond (.tmp 49) (.seq (.ops [⟨some 2, .mov (.const (.bool false)), none⟩]) (
 .ret)) (
 .skip))) (
 .seq (.seq (.ops [⟨some 50, .fieldAddr 8 (.tmp 1), none⟩,
  ⟨some 51, .load false 1 (.tmp 50), none⟩,
  ⟨some 52, .len false (.tmp 51), none⟩,
  ⟨some 53, .bin .gtr none (.tmp 52) (.const (I 4)), none⟩,
  ⟨some 54, .mov (.tmp 53), none⟩,
  ⟨some 55, .fieldAddr 8 (.tmp 1), some (54, false)⟩,
  ⟨some 56, .load false 1 (.tmp 55), some (54, false)⟩,
  ⟨some 57, .len false (.tmp 56), some (54, false)⟩,
  ⟨some 58, .bin .gtr none (.tmp 57) (.const (I 0)), some (54, false)⟩,
  ⟨some 59, .mov (.tmp 58), some (54, false)⟩,
  ⟨some 60, .fieldAddr 0 (.tmp 1), some (59, true)⟩,
  ⟨some 61, .load false 1 (.tmp 60), some (59, true)⟩,
  ⟨some 62, .bin .neq none (.tmp 61) (.const (I 3)), some (59, true)⟩,
  ⟨some 63, .pick (.tmp 59) (.tmp 62) (.const (.bool false)), some (54, false)⟩,
  ⟨some 64, .pick (.tmp 54) (.const (.bool true)) (.tmp 63), none⟩]) (
 .cond (.tmp 64) (.seq (.ops [⟨some 2, .mov (.const (.bool false)), none⟩]) (
 .ret)) (
 .skip))) (
 .seq (.ops [⟨some 65, .fieldAddr 5 (.tmp 1), none⟩,
  ⟨some 66, .load false 1 (.tmp 65), none⟩,
  ⟨some 3, .mov (.tmp 66), none⟩]) (
 .seq (.seq (.ops [⟨some 4, .mov (.const (I 0)), none⟩]) (
 .block 0 (.loop g_spec_MessageOk_L0))) (
 .seq (.seq (.ops [⟨some 108, .fieldAddr 0 (.tmp 1), none⟩,
  ⟨some 109, .load false 1 (.tmp 108), none⟩,
  ⟨some 110, .bin .eql none (.tmp 109) (.const (I 5)), none⟩]) (
 .cond (.tmp 110) (.seq (.ops [⟨some 111, .fieldAddr 9 (.tmp 1), none⟩,
  ⟨some 112, .load false 1 (.tmp 111), none⟩,
  ⟨some 113, .call n_spec_ConfOk [(.tmp 112)], none⟩,
  ⟨some 114, .mov (.tmp 113), none⟩,
  ⟨some 115, .fieldAddr 10 (.tmp 1), some (114, true)⟩,
  ⟨some 116, .load false 1 (.tmp 115), some (114, true)⟩,
  ⟨some 117, .len true (.tmp 116), some (114, true)⟩,
  ⟨some 118, .bin .leq none (.tmp 117) (.const (I 60)), some (114, true)⟩,
  ⟨some 119, .pick (.tmp 114) (.tmp 118) (.const (.bool false)), none⟩,
  ⟨some 2, .mov (.tmp 119), none⟩]) (
 .ret)) (
 .skip))) (
 .seq (.ops [⟨some 120, .fieldAddr 9 (.tmp 1), none⟩,
  ⟨some 121, .load false 1 (.tmp 120), none⟩,
  ⟨some 122, .len false (.tmp 121), none⟩,
  ⟨some 123, .bin .eql none (.tmp 122) (.const (I 0)), none⟩,
  ⟨some 124, .mov (.tmp 123), none⟩,
  ⟨some 125, .fieldAddr 10 (.tmp 1), some (124, true)⟩,
  ⟨some 126, .load false 1 (.tmp 125), some (124, true)⟩,
  ⟨some 127, .bin .eql none (.tmp 126) (.const E), some (124, true)⟩,
  ⟨some 128, .pick (.tmp 124) (.tmp 127) (.const (.bool false)), none⟩,
  ⟨some 129, .mov (.tmp 128), none⟩,
  ⟨some 130, .fieldAddr 11 (.tmp 1), some (129, true)⟩,
  ⟨some 131, .load false 1 (.tmp 130), some (129, true)⟩,
  ⟨some 132, .un .not (.tmp 131), some (129, true)⟩,
  ⟨some 133, .pick (.tmp 129) (.tmp 132) (.const (.bool false)), none⟩,
  ⟨some 2, .mov (.tmp 133), none⟩]) (
 .ret)))))))),
 134, [.tmp 2]⟩

def g_impl_MessageOk_L0 : SC := .seq (.ops [⟨some 50, .bin .lss none (.tmp 49) (.tmp 48), none⟩]) (
 .seq (.cond (.tmp 50) (.skip) (
 .exit 0)) (
 .seq (.block 1 (.seq (.ops [⟨some 51, .idxAddr 3 (.tmp 47) (.tmp 49), none⟩,
  ⟨some 52, .load true 3 (.tmp 51), none⟩,
  ⟨some 5, .new [(I 0), (I 0), E], none⟩,
  ⟨none, .store 3 (.tmp 5) (.tmp 52), none⟩]) (
 .seq (.seq (.ops [⟨some 53, .load true 3 (.tmp 5), none⟩,
  ⟨some 54, .call n_impl_EntryOk [(.tmp 53)], none⟩,
  ⟨some 55, .un .not (.tmp 54), none⟩,
  ⟨some 56, .mov (.tmp 55), none⟩,
  ⟨some 57, .fieldAddr 0 (.tmp 5), some (56, false)⟩,
  ⟨some 58, .load false 1 (.tmp 57), some (56, false)⟩,
  ⟨some 59, .mov (.tmp 3), some (56, false)⟩,
  ⟨some 60, .bin .lss none (.tmp 58) (.tmp 59), some (56, false)⟩,
  ⟨some 61, .pick (.tmp 56) (.const (.bool true)) (.tmp 60), none⟩,
  ⟨some 62, .mov (.tmp 61), none⟩,
  ⟨some 63, .fieldAddr 0 (.tmp 5), some (62, false)⟩,
  ⟨some 64, .load false 1 (.tmp 63), some (62, false)⟩,
  ⟨some 65, .fieldAddr 3 (.tmp 1), some (62, false)⟩,
  ⟨some 66, .load false 1 (.tmp 65), some (62, false)⟩,
  ⟨some 67, .bin .gtr none (.tmp 64) (.tmp 66), some (62, false)⟩,
  ⟨some 68, .pick (.tmp 62) (.const (.bool true)) (.tmp 67), none⟩]) (
 .cond (.tmp 68) (.seq (.ops [⟨some 2, .mov (.const (.bool false)), none⟩]) (
 .ret)) (
 .skip))) (
 .ops [⟨some 69, .fieldAddr 0 (.tmp 5), none⟩,
  ⟨some 70, .load false 1 (.tmp 69), none⟩,
  ⟨some 3, .mov (.tmp 70), none⟩])))) (
 .ops [⟨some 71, .bin .add none (.tmp 49) (.const (I 1)), none⟩,
  ⟨some 49, .mov (.tmp 71), none⟩])))

def g_impl_MessageOk : SFn := ⟨.seq (.ops [⟨some 1, .box (.tmp 0), none⟩,
  ⟨some 2, .mov (.const (.bool false)), none⟩]) (
 .seq (.seq (.ops [⟨some 9, .fieldAddr 0 (.tmp 1), none⟩,
  ⟨some 10, .load false 1 (.tmp 9), none⟩,
  ⟨some 11, .call n_impl_within [(.tmp 10), (.const (I 1)), (.const (I 6))], none⟩,
  ⟨some 12, .un .not (.tmp 11), none⟩,
  ⟨some 13, .mov (.tmp 12), none⟩,
  ⟨some 14, .fieldAddr 1 (.tmp 1), some (13, false)⟩,
  ⟨some 15, .load false 1 (.tmp 14), some (13, false)⟩,
  ⟨some 16, .call n_impl_isNode [(.tmp 15)], some (13, false)⟩,
  ⟨some 17, .un .not (.tmp 16), some (13, false)⟩,
  ⟨some 18, .pick (.tmp 13) (.const (.bool true)) (.tmp 17), none⟩,
  ⟨some 19, .mov (.tmp 18), none⟩,
  ⟨some 20, .fieldAddr 2 (.tmp 1), some (19, false)⟩,
  ⟨some 21, .load false 1 (.tmp 20), some (19, false)⟩,
  ⟨some 22, .call n_impl_isNode [(.tmp 21)], some (19, false)⟩,
  ⟨some 23, .un .not (.tmp 22), some (19, false)⟩,
  ⟨some 24, .pick (.tmp 19) (.const (.bool true)) (.tmp 23), none⟩,
  ⟨some 25, .mov (.tmp 24), none⟩,
  ⟨some 26, .fieldAddr 1 (.tmp 1), some (25, false)⟩,
  ⟨some 27, .load false 1 (.tmp 26), some (25, false)⟩,
  ⟨some 28, .fieldAddr 2 (.tmp 1), some (25, false)⟩,
  ⟨some 29, .load false 1 (.tmp 28), some (25, false)⟩,
  ⟨some 30, .bin .eql none (.tmp 27) (.tmp 29), some (25, false)⟩,
  ⟨some 31, .pick (.tmp 25) (.const (.bool true)) (.tmp 30), none⟩,
  ⟨some 32, .mov (.tmp 31), none⟩,
  ⟨some 33, .fieldAddr 3 (.tmp 1), some (32, false)⟩,
  ⟨some 34, .load false 1 (.tmp 33), some (32, false)⟩,
  ⟨some 35, .call n_impl_isTerm [(.tmp 34)], some (32, false)⟩,
  ⟨some 36, .un .not (.tmp 35), some (32, false)⟩,
  ⟨some 37, .pick (.tmp 32) (.const (.bool true)) (.tmp 36), none⟩,
  ⟨some 38, .mov (.tmp 37), none⟩,
  ⟨some 39, .fieldAddr 5 (.tmp 1), some (38, false)⟩,
  ⟨some 40, .load false 1 (.tmp 39), some (38, false)⟩,
  ⟨some 41, .call n_impl_isTerm [(.tmp 40)], some (38, false)⟩,
  ⟨some 42, .un .not (.tmp 41), some (38, false)⟩,
  ⟨some 43, .pick (.tmp 38) (.const (.bool true)) (.tmp 42), none⟩]) (
 .cond (.tmp 43) (.seq (.ops [⟨some 2, .mov (.const (.bool false)), none⟩]) (
 .ret)) (
 .skip))) (
 .seq (.ops [⟨some 44, .fieldAddr 5 (.tmp 1), none⟩,
  ⟨some 45, .load false 1 (.tmp 44), none⟩,
  ⟨some 3, .mov (.tmp 45), none⟩]) (
 .seq (.seq (.ops [⟨some 46, .fieldAddr 8 (.tmp 1), none⟩,
  ⟨some 47, .load false 1 (.tmp 46), none⟩,
  ⟨some 48, .len false (.tmp 47), none⟩,
  ⟨some 49, .mov (.const (I 0)), none⟩]) (
 .block 0 (.loop g_impl_MessageOk_L0))) (
 .seq (.ops [⟨some 72, .fieldAddr 0 (.tmp 1), none⟩,
  ⟨some 73, .load false 1 (.tmp 72), none⟩,
  ⟨some 74, .bin .eql none (.tmp 73) (.const (I 5)), none⟩,
  ⟨some 75, .mov (.tmp 74), none⟩,
  ⟨some 76, .fieldAddr 9 (.tmp 1), some (75, true)⟩,
  ⟨some 77, .load false 1 (.tmp 76), some (75, true)⟩,
  ⟨some 78, .call n_impl_ConfOk [(.tmp 77)], some (75, true)⟩,
  ⟨some 79, .pick (.tmp 75) (.tmp 78) (.const (.bool false)), none⟩,
  ⟨some 80, .mov (.tmp 79), none⟩,
  ⟨some 81, .fieldAddr 10 (.tmp 1), some (80, true)⟩,
  ⟨some 82, .load false 1 (.tmp 81), some (80, true)⟩,
  ⟨some 83, .len true (.tmp 82), some (80, true)⟩,
  ⟨some 84, .bin .leq none (.tmp 83) (.const (I 60)), some (80, true)⟩,
  ⟨some 85, .pick (.tmp 80) (.tmp 84) (.const (.bool false)), none⟩,
  ⟨some 6, .mov (.tmp 85), none⟩]) (
 .seq (.ops [⟨some 86, .fieldAddr 0 (.tmp 1), none⟩,
  ⟨some 87, .load false 1 (.tmp 86), none⟩,
  ⟨some 88, .bin .neq none (.tmp 87) (.const (I 5)), none⟩,
  ⟨some 89, .mov (.tmp 88), none⟩,
  ⟨some 90, .fieldAddr 9 (.tmp 1), some (89, true)⟩,
  ⟨some 91, .load false 1 (.tmp 90), some (89, true)⟩,
  ⟨some 92, .len false (.tmp 91), some (89, true)⟩,
  ⟨some 93, .bin .eql none (.tmp 92) (.const (I 0)), some (89, true)⟩,
  ⟨some 94, .pick (.tmp 89) (.tmp 93) (.const (.bool false)), none⟩,
  ⟨some 95, .mov (.tmp 94), none⟩,
  ⟨some 96, .fieldAddr 10 (.tmp 1), some (95, true)⟩,
  ⟨some 97, .load false 1 (.tmp 96), some (95, true)⟩,
  ⟨some 98, .bin .eql none (.tmp 97) (.const E), some (95, true)⟩,
  ⟨some 99, .pick (.tmp 95) (.tmp 98) (.const (.bool false)), none⟩,
  ⟨some 100, .mov (.tmp 99), none⟩,
  ⟨some 101, .fieldAddr 11 (.tmp 1), some (100, true)⟩,
  ⟨some 102, .load false 1 (.tmp 101), some (100, true)⟩,
  ⟨some 103, .un .not (.tmp 102), some (100, true)⟩,
  ⟨some 104, .pick (.tmp 100) (.tmp 103) (.const (.bool false)), none⟩,
  ⟨some 7, .mov (.tmp 104), none⟩]) (
 .seq (.ops [⟨some 105, .fieldAddr 8 (.tmp 1), none⟩,
  ⟨some 106, .load false 1 (.tmp 105), none⟩,
  ⟨some 107, .len false (.tmp 106), none⟩,
  ⟨some 108, .bin .eql none (.tmp 107) (.const (I 0)), none⟩,
  ⟨some 109, .mov (.tmp 108), none⟩,
  ⟨some 110, .fieldAddr 0 (.tmp 1), some (109, false)⟩,
  ⟨some 111, .load false 1 (.tmp 110), some (109, false)⟩,
  ⟨some 112, .bin .eql none (.tmp 111) (.const (I 3)), some (109, false)⟩,
  ⟨some 113, .mov (.tmp 112), some (109, false)⟩,
  ⟨some 114, .fieldAddr 8 (.tmp 1), some (113, true)⟩,
  ⟨some 115, .load false 1 (.tmp 114), some (113, true)⟩,
  ⟨some 116, .len false (.tmp 115), some (113, true)⟩,
  ⟨some 117, .bin .leq none (.tmp 116) (.const (I 4)), some (113, true)⟩,
  ⟨some 118, .pick (.tmp 113) (.tmp 117) (.const (.bool false)), some (109, false)⟩,
  ⟨some 119, .pick (.tmp 109) (.const (.bool true)) (.tmp 118), none⟩,
  ⟨some 8, .mov (.tmp 119), none⟩]) (
 .seq (.ops [⟨some 120, .fieldAddr 4 (.tmp 1), none⟩,
  ⟨some 121, .load false 1 (.tmp 120), none⟩,
  ⟨some 122, .call n_impl_isIndex [(.tmp 121)], none⟩,
  ⟨some 123, .mov (.tmp 122), none⟩,
  ⟨some 124, .fieldAddr 6 (.tmp 1), some (123, true)⟩,
  ⟨some 125, .load false 1 (.tmp 124), some (123, true)⟩,
  ⟨some 126, .call n_impl_isIndex [(.tmp 125)], some (123, true)⟩,
  ⟨some 127, .pick (.tmp 123) (.tmp 126) (.const (.bool false)), none⟩,
  ⟨some 128, .mov (.tmp 127), none⟩,
  ⟨some 129, .mov (.tmp 8), some (128, true)⟩,
  ⟨some 130, .pick (.tmp 128) (.tmp 129) (.const (.bool false)), none⟩,
  ⟨some 131, .mov (.tmp 130), none⟩,
  ⟨some 132, .mov (.tmp 6), some (131, true)⟩,
  ⟨some 133, .mov (.tmp 132), some (131, true)⟩,
  ⟨some 134, .mov (.tmp 7), some (133, false)⟩,
  ⟨some 135, .pick (.tmp 133) (.const (.bool true)) (.tmp 134), some (131, true)⟩,
  ⟨some 136, .pick (.tmp 131) (.tmp 135) (.const (.bool false)), none⟩,
  ⟨some 2, .mov (.tmp 136), none⟩]) (
 .ret)))))))),
 137, [.tmp 2]⟩

def g_laws_sameMessage_L0 : SC := .seq (.seq (.ops [⟨some 21, .mov (.tmp 5), none⟩,
  ⟨some 22, .fieldAddr 8 (.tmp 2), none⟩,
  ⟨some 23, .load false 1 (.tmp 22), none⟩,
  ⟨some 24, .len false (.tmp 23), none⟩,
  ⟨some 25, .bin .lss none (.tmp 21) (.tmp 24), none⟩]) (
 .cond (.tmp 25) (.skip) (
 .exit 0))) (
 .seq (.block 1 (.seq (.draw [(⟨some 28, .fieldAddr 8 (.tmp 2), none⟩, none),
  (⟨some 29, .load false 1 (.tmp 28), none⟩, some (1, [], [])),
  (⟨some 30, .mov (.tmp 5), none⟩, none),
  (⟨some 31, .idxAddr 3 (.tmp 29) (.tmp 30), none⟩, none),
  (⟨some 32, .load true 3 (.tmp 31), none⟩, some (4, [1], [])),
  (⟨some 33, .fieldAddr 8 (.tmp 3), none⟩, none),
  (⟨some 34, .load false 1 (.tmp 33), none⟩, some (6, [], [4, 1])),
  (⟨some 35, .mov (.tmp 5), none⟩, none),
  (⟨some 36, .idxAddr 3 (.tmp 34) (.tmp 35), none⟩, none),
  (⟨some 37, .load true 3 (.tmp 36), none⟩, some (9, [6], [4, 1])),
  (⟨some 38, .bin .neq (some [.int, .int, .str]) (.tmp 32) (.tmp 37), none⟩, none)]) (
 .cond (.tmp 38) (.seq (.ops [⟨some 4, .mov (.const (.bool false)), none⟩]) (
 .ret)) (
 .skip)))) (
 .ops [⟨some 26, .mov (.tmp 5), none⟩,
  ⟨some 27, .bin .add none (.tmp 26) (.const (I 1)), none⟩,
  ⟨some 5, .mov (.tmp 27), none⟩]))

def g_laws_sameMessage : SFn := ⟨.seq (.ops [⟨some 2, .box (.tmp 0), none⟩,
  ⟨some 3, .box (.tmp 1), none⟩,
  ⟨some 4, .mov (.const (.bool false)), none⟩]) (
 .seq (.seq (.ops [⟨some 6, .fieldAddr 8 (.tmp 2), none⟩,
  ⟨some 7, .load false 1 (.tmp 6), none⟩,
  ⟨some 8, .len false (.tmp 7), none⟩,
  ⟨some 9, .fieldAddr 8 (.tmp 3), none⟩,
  ⟨some 10, .load false 1 (.tmp 9), none⟩,
  ⟨some 11, .len false (.tmp 10), none⟩,
  ⟨some 12, .bin .neq none (.tmp 8) (.tmp 11), none⟩,
  ⟨some 13, .mov (.tmp 12), none⟩,
  ⟨some 14, .fieldAddr 9 (.tmp 2), some (13, false)⟩,
  ⟨some 15, .load false 1 (.tmp 14), some (13, false)⟩,
  ⟨some 16, .fieldAddr 9 (.tmp 3), some (13, false)⟩,
  ⟨some 17, .load false 1 (.tmp 16), some (13, false)⟩,
  ⟨some 18, .call n_laws_sameInts [(.tmp 15), (.tmp 17)], some (13, false)⟩,
  ⟨some 19, .un .not (.tmp 18), some (13, false)⟩,
  ⟨some 20, .pick (.tmp 13) (.const (.bool true)) (.tmp 19), none⟩]) (
 .cond (.tmp 20) (.seq (.ops [⟨some 4, .mov (.const (.bool false)), none⟩]) (
 .ret)) (
 .skip))) (
 .seq (.seq (.ops [⟨some 5, .mov (.const (I 0)), none⟩]) (
 .block 0 (.loop g_laws_sameMessage_L0))) (
 .seq (.ops [⟨some 39, .fieldAddr 0 (.tmp 2), none⟩,
  ⟨some 40, .load false 1 (.tmp 39), none⟩,
  ⟨some 41, .fieldAddr 0 (.tmp 3), none⟩,
  ⟨some 42, .load false 1 (.tmp 41), none⟩,
  ⟨some 43, .bin .eql none (.tmp 40) (.tmp 42), none⟩,
  ⟨some 44, .mov (.tmp 43), none⟩,
  ⟨some 45, .fieldAddr 1 (.tmp 2), some (44, true)⟩,
  ⟨some 46, .load false 1 (.tmp 45), some (44, true)⟩,
  ⟨some 47, .fieldAddr 1 (.tmp 3), some (44, true)⟩,
  ⟨some 48, .load false 1 (.tmp 47), some (44, true)⟩,
  ⟨some 49, .bin .eql none (.tmp 46) (.tmp 48), some (44, true)⟩,
  ⟨some 50, .pick (.tmp 44) (.tmp 49) (.const (.bool false)), none⟩,
  ⟨some 51, .mov (.tmp 50), none⟩,
  ⟨some 52, .fieldAddr 2 (.tmp 2), some (51, true)⟩,
  ⟨some 53, .load false 1 (.tmp 52), some (51, true)⟩,
  ⟨some 54, .fieldAddr 2 (.tmp 3), some (51, true)⟩,
  ⟨some 55, .load false 1 (.tmp 54), some (51, true)⟩,
  ⟨some 56, .bin .eql none (.tmp 53) (.tmp 55), some (51, true)⟩,
  ⟨some 57, .pick (.tmp 51) (.tmp 56) (.const (.bool false)), none⟩,
  ⟨some 58, .mov (.tmp 57), none⟩,
  ⟨some 59, .fieldAddr 3 (.tmp 2), some (58, true)⟩,
  ⟨some 60, .load false 1 (.tmp 59), some (58, true)⟩,
  ⟨some 61, .fieldAddr 3 (.tmp 3), some (58, true)⟩,
  ⟨some 62, .load false 1 (.tmp 61), some (58, true)⟩,
  ⟨some 63, .bin .eql none (.tmp 60) (.tmp 62), some (58, true)⟩,
  ⟨some 64, .pick (.tmp 58) (.tmp 63) (.const (.bool false)), none⟩,
  ⟨some 65, .mov (.tmp 64), none⟩,
  ⟨some 66, .fieldAddr 4 (.tmp 2), some (65, true)⟩,
  ⟨some 67, .load false 1 (.tmp 66), some (65, true)⟩,
  ⟨some 68, .fieldAddr 4 (.tmp 3), some (65, true)⟩,
  ⟨some 69, .load false 1 (.tmp 68), some (65, true)⟩,
  ⟨some 70, .bin .eql none (.tmp 67) (.tmp 69), some (65, true)⟩,
  ⟨some 71, .pick (.tmp 65) (.tmp 70) (.const (.bool false)), none⟩,
  ⟨some 72, .mov (.tmp 71), none⟩,
  ⟨some 73, .fieldAddr 5 (.tmp 2), some (72, true)⟩,
  ⟨some 74, .load false 1 (.tmp 73), some (72, true)⟩,
  ⟨some 75, .fieldAddr 5 (.tmp 3), some (72, true)⟩,
  ⟨some 76, .load false 1 (.tmp 75), some (72, true)⟩,
  ⟨some 77, .bin .eql none (.tmp 74) (.tmp 76), some (72, true)⟩,
  ⟨some 78, .pick (.tmp 72) (.tmp 77) (.const (.bool false)), none⟩,
  ⟨some 79, .mov (.tmp 78), none⟩,
  ⟨some 80, .fieldAddr 6 (.tmp 2), some (79, true)⟩,
  ⟨some 81, .load false 1 (.tmp 80), some (79, true)⟩,
  ⟨some 82, .fieldAddr 6 (.tmp 3), some (79, true)⟩,
  ⟨some 83, .load false 1 (.tmp 82), some (79, true)⟩,
  ⟨some 84, .bin .eql none (.tmp 81) (.tmp 83), some (79, true)⟩,
  ⟨some 85, .pick (.tmp 79) (.tmp 84) (.const (.bool false)), none⟩,
  ⟨some 86, .mov (.tmp 85), none⟩,
  ⟨some 87, .fieldAddr 7 (.tmp 2), some (86, true)⟩,
  ⟨some 88, .load false 1 (.tmp 87), some (86, true)⟩,
  ⟨some 89, .fieldAddr 7 (.tmp 3), some (86, true)⟩,
  ⟨some 90, .load false 1 (.tmp 89), some (86, true)⟩,
  ⟨some 91, .bin .eql (some [.self]) (.tmp 88) (.tmp 90), some (86, true)⟩,
  ⟨some 92, .pick (.tmp 86) (.tmp 91) (.const (.bool false)), none⟩,
  ⟨some 93, .mov (.tmp 92), none⟩,
  ⟨some 94, .fieldAddr 10 (.tmp 2), some (93, true)⟩,
  ⟨some 95, .load false 1 (.tmp 94), some (93, true)⟩,
  ⟨some 96, .fieldAddr 10 (.tmp 3), some (93, true)⟩,
  ⟨some 97, .load false 1 (.tmp 96), some (93, true)⟩,
  ⟨some 98, .bin .eql none (.tmp 95) (.tmp 97), some (93, true)⟩,
  ⟨some 99, .pick (.tmp 93) (.tmp 98) (.const (.bool false)), none⟩,
  ⟨some 100, .mov (.tmp 99), none⟩,
  ⟨some 101, .fieldAddr 11 (.tmp 2), some (100, true)⟩,
  ⟨some 102, .load false 1 (.tmp 101), some (100, true)⟩,
  ⟨some 103, .fieldAddr 11 (.tmp 3), some (100, true)⟩,
  ⟨some 104, .load false 1 (.tmp 103), some (100, true)⟩,
  ⟨some 105, .bin .eql (some [.self]) (.tmp 102) (.tmp 104), some (100, true)⟩,
  ⟨some 106, .pick (.tmp 100) (.tmp 105) (.const (.bool false)), none⟩,
  ⟨some 4, .mov (.tmp 106), none⟩]) (
 .ret)))),
 107, [.tmp 4]⟩

def g_spec_DrawDecode : SFn := ⟨.seq (.ops [⟨some 2, .mov (.const E), none⟩]) (
 .seq (.ops [⟨some 6, .mov (.tmp 0), none⟩,
  ⟨some 7, .call n_spec_l01New [(.tmp 6)], none⟩,
  ⟨some 3, .mov (.tmp 7), none⟩]) (
 .seq (.ops [⟨some 9, .mov (.tmp 3), none⟩,
  ⟨some 10, .call n_spec_l17Any [(.tmp 9)], none⟩,
  ⟨some 11, .call n_spec_Encode [(.tmp 10)], none⟩,
  ⟨some 8, .mov (.tmp 11), none⟩,
  ⟨some 12, .extract 0 (.tmp 8), none⟩,
  ⟨some 13, .extract 1 (.tmp 8), none⟩,
  ⟨some 4, .mov (.tmp 12), none⟩,
  ⟨some 5, .mov (.tmp 13), none⟩]) (
 .seq (.ops [⟨some 14, .mov (.tmp 3), none⟩,
  ⟨some 15, .mov (.tmp 4), none⟩,
  ⟨some 16, .call n_spec_l02Spoilt [(.tmp 14), (.tmp 15)], none⟩,
  ⟨some 2, .mov (.tmp 16), none⟩]) (
 .ret)))),
 17, [.tmp 2]⟩

def g_spec_ReadConf_L0 : SC := .seq (.seq (.ops [⟨some 7, .mov (.tmp 5), none⟩,
  ⟨some 8, .mov (.tmp 0), none⟩,
  ⟨some 9, .len true (.tmp 8), none⟩,
  ⟨some 10, .bin .lss none (.tmp 7) (.tmp 9), none⟩,
  ⟨some 11, .mov (.tmp 10), none⟩,
  ⟨some 12, .mov (.tmp 5), some (11, true)⟩,
  ⟨some 13, .bin .leq none (.tmp 12) (.const (I 4)), some (11, true)⟩,
  ⟨some 14, .pick (.tmp 11) (.tmp 13) (.const (.bool false)), none⟩]) (
 .cond (.tmp 14) (.skip) (
 .exit 0))) (
 .seq (.block 1 (.ops [⟨some 17, .mov (.tmp 4), none⟩,
  ⟨some 18, .mov (.tmp 0), none⟩,
  ⟨some 19, .mov (.tmp 5), none⟩,
  ⟨some 20, .idxStr (.tmp 18) (.tmp 19), none⟩,
  ⟨some 21, .convInt .i64 (.tmp 20), none⟩,
  ⟨some 22, .arr 1 [(I 0)] 1 [(0, 1, (.tmp 21))], none⟩,
  ⟨some 23, .append 1 8 [(I 0)] (.tmp 17) (.tmp 22), none⟩,
  ⟨some 4, .mov (.tmp 23), none⟩])) (
 .ops [⟨some 15, .mov (.tmp 5), none⟩,
  ⟨some 16, .bin .add none (.tmp 15) (.const (I 1)), none⟩,
  ⟨some 5, .mov (.tmp 16), none⟩]))

def g_spec_ReadConf : SFn := ⟨.seq (.ops [⟨some 2, .mov (.const (.slice none 0 0)), none⟩,
  ⟨some 3, .mov (.const (.bool false)), none⟩]) (
 .seq (.ops [⟨some 6, .arr 1 [(I 0)] 0 [], none⟩,
  ⟨some 4, .mov (.tmp 6), none⟩]) (
 .seq (.seq (.ops [⟨some 5, .mov (.const (I 0)), none⟩]) (
 .block 0 (.loop g_spec_ReadConf_L0))) (
 .seq (.seq (.ops [⟨some 24, .mov (.tmp 4), none⟩,
  ⟨some 25, .len false (.tmp 24), none⟩,
  ⟨some 26, .mov (.tmp 0), none⟩,
  ⟨some 27, .len true (.tmp 26), none⟩,
  ⟨some 28, .bin .neq none (.tmp 25) (.tmp 27), none⟩,
  ⟨some 29, .mov (.tmp 28), none⟩,
  ⟨some 30, .mov (.tmp 4), some (29, false)⟩,
  ⟨some 31, .call n_spec_ConfOk [(.tmp 30)], some (29, false)⟩,
  ⟨some 32, .un .not (.tmp 31), some (29, false)⟩,
  ⟨some 33, .pick (.tmp 29) (.const (.bool true)) (.tmp 32), none⟩]) (
 .cond (.tmp 33) (.seq (.ops [⟨some 34, .arr 1 [(I 0)] 0 [], none⟩,
  ⟨some 2, .mov (.tmp 34), none⟩,
  ⟨some 3, .mov (.const (.bool false)), none⟩]) (
 .ret)) (
 .skip))) (
 .seq (.ops [⟨some 35, .mov (.tmp 4), none⟩,
  ⟨some 2, .mov (.tmp 35), none⟩,
  ⟨some 3, .mov (.const (.bool true)), none⟩]) (
 .ret))))),
 36, [.tmp 2, .tmp 3]⟩

def g_spec_l05Take : SFn := ⟨.seq (.ops [⟨some 4, .mov (.const E), none⟩]) (
 .seq (.seq (.draw [(⟨some 5, .mov (.tmp 0), none⟩, none),
  (⟨some 6, .nilChk (.tmp 5), none⟩, none),
  (⟨some 7, .fieldAddr 2 (.tmp 6), none⟩, none),
  (⟨some 8, .load false 1 (.tmp 7), none⟩, some (3, [], [])),
  (⟨some 9, .mov (.tmp 8), none⟩, none),
  (⟨some 10, .mov (.tmp 1), some (9, false)⟩, none),
  (⟨some 11, .mov (.tmp 0), some (9, false)⟩, none),
  (⟨some 12, .nilChk (.tmp 11), some (9, false)⟩, none),
  (⟨some 13, .fieldAddr 0 (.tmp 12), some (9, false)⟩, none),
  (⟨some 14, .load false 1 (.tmp 13), some (9, false)⟩, some (9, [3], [])),
  (⟨some 15, .len true (.tmp 14), some (9, false)⟩, none),
  (⟨some 16, .mov (.tmp 0), some (9, false)⟩, none),
  (⟨some 17, .nilChk (.tmp 16), some (9, false)⟩, none),
  (⟨some 18, .fieldAddr 1 (.tmp 17), some (9, false)⟩, none),
  (⟨some 19, .load false 1 (.tmp 18), some (9, false)⟩, some (14, [3], [9])),
  (⟨some 20, .bin .sub none (.tmp 15) (.tmp 19), some (9, false)⟩, none),
  (⟨some 21, .bin .gtr none (.tmp 10) (.tmp 20), some (9, false)⟩, none),
  (⟨some 22, .pick (.tmp 9) (.const (.bool true)) (.tmp 21), none⟩, none)]) (
 .cond (.tmp 22) (.seq (.ops [⟨some 23, .mov (.tmp 0), none⟩,
  ⟨some 24, .nilChk (.tmp 23), none⟩,
  ⟨some 25, .fieldAddr 2 (.tmp 24), none⟩,
  ⟨none, .store 1 (.tmp 25) (.const (.bool true)), none⟩]) (
 .seq (.ops [⟨some 4, .mov (.const E), none⟩]) (
 .ret))) (
 .skip))) (
 .seq (.ops [⟨some 26, .mov (.tmp 0), none⟩,
  ⟨some 27, .mov (.tmp 0), none⟩,
  ⟨some 28, .nilChk (.tmp 27), none⟩,
  ⟨some 29, .fieldAddr 1 (.tmp 28), none⟩,
  ⟨some 30, .load false 1 (.tmp 29), none⟩,
  ⟨some 31, .mov (.tmp 1), none⟩,
  ⟨some 32, .bin .add none (.tmp 30) (.tmp 31), none⟩,
  ⟨some 33, .nilChk (.tmp 26), none⟩,
  ⟨some 34, .fieldAddr 1 (.tmp 33), none⟩,
  ⟨none, .store 1 (.tmp 34) (.tmp 32), none⟩]) (
 .seq (.draw [(⟨some 35, .mov (.tmp 0), none⟩, none),
  (⟨some 36, .nilChk (.tmp 35), none⟩, none),
  (⟨some 37, .fieldAddr 0 (.tmp 36), none⟩, none),
  (⟨some 38, .load false 1 (.tmp 37), none⟩, some (3, [], [])),
  (⟨some 39, .mov (.tmp 0), none⟩, none),
  (⟨some 40, .nilChk (.tmp 39), none⟩, none),
  (⟨some 41, .fieldAddr 1 (.tmp 40), none⟩, none),
  (⟨some 42, .load false 1 (.tmp 41), none⟩, some (7, [], [3])),
  (⟨some 43, .mov (.tmp 1), none⟩, none),
  (⟨some 44, .bin .sub none (.tmp 42) (.tmp 43), none⟩, none),
  (⟨some 45, .mov (.tmp 0), none⟩, none),
  (⟨some 46, .nilChk (.tmp 45), none⟩, none),
  (⟨some 47, .fieldAddr 1 (.tmp 46), none⟩, none),
  (⟨some 48, .load false 1 (.tmp 47), none⟩, some (13, [], [7, 3])),
  (⟨some 49, .sliceS (.tmp 38) (some (.tmp 44)) (some (.tmp 48)), none⟩, none),
  (⟨some 4, .mov (.tmp 49), none⟩, none)]) (
 .ret)))),
 50, [.tmp 4]⟩

def g_spec_l05Var : SFn := ⟨.seq (.ops [⟨some 2, .mov (.const (I 0)), none⟩]) (
 .seq (.draw [(⟨some 7, .mov (.tmp 0), none⟩, none),
  (⟨some 8, .nilChk (.tmp 7), none⟩, none),
  (⟨some 9, .fieldAddr 0 (.tmp 8), none⟩, none),
  (⟨some 10, .load false 1 (.tmp 9), none⟩, some (3, [], [])),
  (⟨some 11, .mov (.tmp 0), none⟩, none),
  (⟨some 12, .nilChk (.tmp 11), none⟩, none),
  (⟨some 13, .fieldAddr 1 (.tmp 12), none⟩, none),
  (⟨some 14, .load false 1 (.tmp 13), none⟩, some (7, [], [3])),
  (⟨some 15, .call n_spec_ReadVar [(.tmp 10), (.tmp 14)], none⟩, some (8, [7, 3], [])),
  (⟨some 6, .mov (.tmp 15), none⟩, none),
  (⟨some 16, .extract 0 (.tmp 6), none⟩, none),
  (⟨some 17, .extract 1 (.tmp 6), none⟩, none),
  (⟨some 18, .extract 2 (.tmp 6), none⟩, none),
  (⟨some 3, .mov (.tmp 16), none⟩, none),
  (⟨some 4, .mov (.tmp 17), none⟩, none),
  (⟨some 5, .mov (.tmp 18), none⟩, none)]) (
 .seq (.seq (.ops [⟨some 19, .mov (.tmp 0), none⟩,
  ⟨some 20, .nilChk (.tmp 19), none⟩,
  ⟨some 21, .fieldAddr 2 (.tmp 20), none⟩,
  ⟨some 22, .load false 1 (.tmp 21), none⟩,
  ⟨some 23, .mov (.tmp 22), none⟩,
  ⟨some 24, .mov (.tmp 5), some (23, false)⟩,
  ⟨some 25, .un .not (.tmp 24), some (23, false)⟩,
  ⟨some 26, .pick (.tmp 23) (.const (.bool true)) (.tmp 25), none⟩]) (
 .cond (.tmp 26) (.seq (.ops [⟨some 27, .mov (.tmp 0), none⟩,
  ⟨some 28, .nilChk (.tmp 27), none⟩,
  ⟨some 29, .fieldAddr 2 (.tmp 28), none⟩,
  ⟨none, .store 1 (.tmp 29) (.const (.bool true)), none⟩]) (
 .seq (.ops [⟨some 2, .mov (.const (I 0)), none⟩]) (
 .ret))) (
 .skip))) (
 .seq (.ops [⟨some 30, .mov (.tmp 0), none⟩,
  ⟨some 31, .mov (.tmp 4), none⟩,
  ⟨some 32, .nilChk (.tmp 30), none⟩,
  ⟨some 33, .fieldAddr 1 (.tmp 32), none⟩,
  ⟨none, .store 1 (.tmp 33) (.tmp 31), none⟩]) (
 .seq (.ops [⟨some 34, .mov (.tmp 3), none⟩,
  ⟨some 2, .mov (.tmp 34), none⟩]) (
 .ret))))),
 35, [.tmp 2]⟩

def g_spec_ReadEntry : SFn := ⟨.seq (.ops [⟨some 2, .mov (.const (I 0)), none⟩,
  ⟨some 3, .new [(I 0), (I 0), E], none⟩,
  ⟨some 4, .mov (.const (.bool false)), none⟩]) (
 .seq (.ops [⟨some 11, .mov (.tmp 0), none⟩,
  ⟨some 12, .build [E, (I 0), (.bool false)] [(0, 1, (.tmp 11))], none⟩,
  ⟨some 13, .box (.tmp 12), none⟩,
  ⟨some 5, .mov (.tmp 13), none⟩]) (
 .seq (.ops [⟨some 14, .mov (.tmp 5), none⟩,
  ⟨some 15, .call n_spec_l05Take [(.tmp 14), (.const (I 1))], none⟩]) (
 .seq (.ops [⟨some 16, .mov (.tmp 5), none⟩,
  ⟨some 17, .call n_spec_l05Var [(.tmp 16)], none⟩,
  ⟨some 6, .mov (.tmp 17), none⟩]) (
 .seq (.ops [⟨some 18, .build [(I 0), (I 0), E] [], none⟩,
  ⟨some 7, .new [(I 0), (I 0), E], none⟩,
  ⟨none, .store 3 (.tmp 7) (.tmp 18), none⟩]) (
 .seq (.ops [⟨some 19, .mov (.tmp 5), none⟩,
  ⟨some 20, .call n_spec_l05Var [(.tmp 19)], none⟩,
  ⟨some 21, .fieldAddr 0 (.tmp 7), none⟩,
  ⟨none, .store 1 (.tmp 21) (.tmp 20), none⟩]) (
 .seq (.ops [⟨some 22, .mov (.tmp 5), none⟩,
  ⟨some 23, .call n_spec_l05Take [(.tmp 22), (.const (I 1))], none⟩,
  ⟨some 8, .mov (.tmp 23), none⟩]) (
 .seq (.seq (.ops [⟨some 24, .mov (.tmp 5), none⟩,
  ⟨some 25, .nilChk (.tmp 24), none⟩,
  ⟨some 26, .fieldAddr 2 (.tmp 25), none⟩,
  ⟨some 27, .load false 1 (.tmp 26), none⟩]) (
 .cond (.tmp 27) (.seq (.ops [⟨some 28, .build [(I 0), (I 0), E] [], none⟩,
  ⟨some 2, .mov (.const (I 0)), none⟩,
  ⟨none, .store 3 (.tmp 3) (.tmp 28), none⟩,
  ⟨some 4, .mov (.const (.bool false)), none⟩]) (
 .ret)) (
 .skip))) (
 .seq (.ops [⟨some 29, .mov (.tmp 8), none⟩,
  ⟨some 30, .idxStr (.tmp 29) (.const (I 0)), none⟩,
  ⟨some 31, .convInt .i64 (.tmp 30), none⟩,
  ⟨some 32, .fieldAddr 1 (.tmp 7), none⟩,
  ⟨none, .store 1 (.tmp 32) (.tmp 31), none⟩]) (
 .seq (.ops [⟨some 33, .mov (.tmp 0), none⟩,
  ⟨some 34, .mov (.tmp 5), none⟩,
  ⟨some 35, .nilChk (.tmp 34), none⟩,
  ⟨some 36, .fieldAddr 1 (.tmp 35), none⟩,
  ⟨some 37, .load false 1 (.tmp 36), none⟩,
  ⟨some 38, .sliceS (.tmp 33) (some (.tmp 37)) none, none⟩,
  ⟨some 39, .fieldAddr 2 (.tmp 7), none⟩,
  ⟨none, .store 1 (.tmp 39) (.tmp 38), none⟩]) (
 .seq (.ops [⟨some 41, .mov (.tmp 6), none⟩,
  ⟨some 42, .load true 3 (.tmp 7), none⟩,
  ⟨some 43, .call n_spec_EntryText [(.tmp 41), (.tmp 42)], none⟩,
  ⟨some 40, .mov (.tmp 43), none⟩,
  ⟨some 44, .extract 0 (.tmp 40), none⟩,
  ⟨some 45, .extract 1 (.tmp 40), none⟩,
  ⟨some 9, .mov (.tmp 44), none⟩,
  ⟨some 10, .mov (.tmp 45), none⟩]) (
 .seq (.seq (.ops [⟨some 46, .mov (.tmp 10), none⟩,
  ⟨some 47, .un .not (.tmp 46), none⟩,
  ⟨some 48, .mov (.tmp 47), none⟩,
  ⟨some 49, .mov (.tmp 9), some (48, false)⟩,
  ⟨some 50, .mov (.tmp 0), some (48, false)⟩,
  ⟨some 51, .bin .neq none (.tmp 49) (.tmp 50), some (48, false)⟩,
  ⟨some 52, .pick (.tmp 48) (.const (.bool true)) (.tmp 51), none⟩]) (
 .cond (.tmp 52) (.seq (.ops [⟨some 53, .build [(I 0), (I 0), E] [], none⟩,
  ⟨some 2, .mov (.const (I 0)), none⟩,
  ⟨none, .store 3 (.tmp 3) (.tmp 53), none⟩,
  ⟨some 4, .mov (.const (.bool false)), none⟩]) (
 .ret)) (
 .skip))) (
 .seq (.draw [(⟨some 54, .mov (.tmp 6), none⟩, none),
  (⟨some 55, .load true 3 (.tmp 7), none⟩, some (1, [], [])),
  (⟨some 2, .mov (.tmp 54), none⟩, none),
  (⟨none, .store 3 (.tmp 3) (.tmp 55), none⟩, some (3, [1], [])),
  (⟨some 4, .mov (.const (.bool true)), none⟩, none)]) (
 .ret))))))))))))),
 56, [.tmp 2, .cell true 3 3, .tmp 4]⟩

def g_spec_l05ReadShort : SFn := ⟨.seq (.ops [⟨some 2, .mov (.const E), none⟩]) (
 .seq (.ops [⟨some 4, .mov (.tmp 0), none⟩,
  ⟨some 5, .call n_spec_l05Var [(.tmp 4)], none⟩,
  ⟨some 3, .mov (.tmp 5), none⟩]) (
 .seq (.ops [⟨some 6, .mov (.tmp 0), none⟩,
  ⟨some 7, .mov (.tmp 3), none⟩,
  ⟨some 8, .call n_spec_l05Take [(.tmp 6), (.tmp 7)], none⟩,
  ⟨some 2, .mov (.tmp 8), none⟩]) (
 .ret))),
 9, [.tmp 2]⟩

def g_spec_Encode_L0 : SC := .seq (.seq (.ops [⟨some 53, .mov (.tmp 5), none⟩,
  ⟨some 54, .fieldAddr 8 (.tmp 1), none⟩,
  ⟨some 55, .load false 1 (.tmp 54), none⟩,
  ⟨some 56, .len false (.tmp 55), none⟩,
  ⟨some 57, .bin .lss none (.tmp 53) (.tmp 56), none⟩]) (
 .cond (.tmp 57) (.skip) (
 .exit 0))) (
 .seq (.block 1 (.seq (.ops [⟨some 61, .fieldAddr 8 (.tmp 1), none⟩,
  ⟨some 62, .load false 1 (.tmp 61), none⟩,
  ⟨some 63, .mov (.tmp 5), none⟩,
  ⟨some 64, .idxAddr 3 (.tmp 62) (.tmp 63), none⟩,
  ⟨some 65, .load true 3 (.tmp 64), none⟩,
  ⟨some 66, .call n_spec_EntryText [(.const (I 1)), (.tmp 65)], none⟩,
  ⟨some 60, .mov (.tmp 66), none⟩,
  ⟨some 67, .extract 0 (.tmp 60), none⟩,
  ⟨some 68, .extract 1 (.tmp 60), none⟩,
  ⟨some 6, .mov (.tmp 67), none⟩,
  ⟨some 7, .mov (.tmp 68), none⟩]) (
 .ops [⟨some 69, .mov (.tmp 4), none⟩,
  ⟨some 70, .mov (.tmp 6), none⟩,
  ⟨some 71, .call n_spec_l05Short [(.tmp 70)], none⟩,
  ⟨some 72, .bin .add none (.tmp 69) (.tmp 71), none⟩,
  ⟨some 4, .mov (.tmp 72), none⟩]))) (
 .ops [⟨some 58, .mov (.tmp 5), none⟩,
  ⟨some 59, .bin .add none (.tmp 58) (.const (I 1)), none⟩,
  ⟨some 5, .mov (.tmp 59), none⟩]))

def g_spec_Encode : SFn := ⟨.seq (.ops [⟨some 1, .box (.tmp 0), none⟩,
  ⟨some 2, .mov (.const E), none⟩,
  ⟨some 3, .mov (.const (.bool false)), none⟩]) (
 .seq (.seq (.ops [⟨some 10, .load true 12 (.tmp 1), none⟩,
  ⟨some 11, .call n_spec_MessageOk [(.tmp 10)], none⟩,
  ⟨some 12, .un .not (.tmp 11), none⟩]) (
 .cond (.tmp 12) (.seq (.ops [⟨some 2, .mov (.const E), none⟩,
  ⟨some 3, .mov (.const (.bool false)), none⟩]) (
 .ret)) (
 .skip))) (
 .seq (.draw [(⟨some 13, .fieldAddr 0 (.tmp 1), none⟩, none),
  (⟨some 14, .load false 1 (.tmp 13), none⟩, some (1, [], [])),
  (⟨some 15, .convInt .u8 (.tmp 14), none⟩, none),
  (⟨some 16, .fieldAddr 1 (.tmp 1), none⟩, none),
  (⟨some 17, .load false 1 (.tmp 16), none⟩, some (4, [], [1])),
  (⟨some 18, .convInt .u8 (.tmp 17), none⟩, none),
  (⟨some 19, .fieldAddr 2 (.tmp 1), none⟩, none),
  (⟨some 20, .load false 1 (.tmp 19), none⟩, some (7, [], [4, 1])),
  (⟨some 21, .convInt .u8 (.tmp 20), none⟩, none),
  (⟨some 22, .arr 1 [(.int .u8 0)] 3 [(0, 1, (.tmp 15)), (1, 1, (.tmp 18)), (2, 1, (.tmp 21))], none⟩, some (9, [7, 4, 1], [])),
  (⟨some 23, .convB2S (.tmp 22), none⟩, some (10, [9, 7, 4, 1], [])),
  (⟨some 24, .fieldAddr 3 (.tmp 1), none⟩, none),
  (⟨some 25, .load false 1 (.tmp 24), none⟩, some (12, [], [10, 9, 7, 4, 1])),
  (⟨some 26, .call n_spec_l01Var [(.tmp 25)], none⟩, some (13, [12], [10, 9, 7, 4, 1])),
  (⟨some 27, .bin .add none (.tmp 23) (.tmp 26), none⟩, none),
  (⟨some 28, .fieldAddr 4 (.tmp 1), none⟩, none),
  (⟨some 29, .load false 1 (.tmp 28), none⟩, some (16, [], [13, 12, 10, 9, 7, 4, 1])),
  (⟨some 30, .call n_spec_l01Var [(.tmp 29)], none⟩, some (17, [16, 13, 12], [10, 9, 7, 4, 1])),
  (⟨some 31, .bin .add none (.tmp 27) (.tmp 30), none⟩, none),
  (⟨some 32, .fieldAddr 5 (.tmp 1), none⟩, none),
  (⟨some 33, .load false 1 (.tmp 32), none⟩, some (20, [], [17, 16, 13, 12, 10, 9, 7, 4, 1])),
  (⟨some 34, .call n_spec_l01Var [(.tmp 33)], none⟩, some (21, [20, 17, 16, 13, 12], [10, 9, 7, 4, 1])),
  (⟨some 35, .bin .add none (.tmp 31) (.tmp 34), none⟩, none),
  (⟨some 36, .fieldAddr 6 (.tmp 1), none⟩, none),
  (⟨some 37, .load false 1 (.tmp 36), none⟩, some (24, [], [21, 20, 17, 16, 13, 12, 10, 9, 7, 4, 1])),
  (⟨some 38, .call n_spec_l01Var [(.tmp 37)], none⟩, some (25, [24, 21, 20, 17, 16, 13, 12], [10, 9, 7, 4, 1])),
  (⟨some 39, .bin .add none (.tmp 35) (.tmp 38), none⟩, none),
  (⟨some 40, .fieldAddr 7 (.tmp 1), none⟩, none),
  (⟨some 41, .load false 1 (.tmp 40), none⟩, some (28, [], [25, 24, 21, 20, 17, 16, 13, 12, 10, 9, 7, 4, 1])),
  (⟨some 42, .call n_spec_l17Flag [(.tmp 41)], none⟩, some (29, [28, 25, 24, 21, 20, 17, 16, 13, 12], [10, 9, 7, 4, 1])),
  (⟨some 43, .bin .add none (.tmp 39) (.tmp 42), none⟩, none),
  (⟨some 44, .fieldAddr 11 (.tmp 1), none⟩, none),
  (⟨some 45, .load false 1 (.tmp 44), none⟩, some (32, [], [29, 28, 25, 24, 21, 20, 17, 16, 13, 12, 10, 9, 7, 4, 1])),
  (⟨some 46, .call n_spec_l17Flag [(.tmp 45)], none⟩, some (33, [32, 29, 28, 25, 24, 21, 20, 17, 16, 13, 12], [10, 9, 7, 4, 1])),
  (⟨some 47, .bin .add none (.tmp 43) (.tmp 46), none⟩, none),
  (⟨some 48, .fieldAddr 8 (.tmp 1), none⟩, none),
  (⟨some 49, .load false 1 (.tmp 48), none⟩, some (36, [], [33, 32, 29, 28, 25, 24, 21, 20, 17, 16, 13, 12, 10, 9, 7, 4, 1])),
  (⟨some 50, .len false (.tmp 49), none⟩, none),
  (⟨some 51, .call n_spec_l01Var [(.tmp 50)], none⟩, some (38, [36, 33, 32, 29, 28, 25, 24, 21, 20, 17, 16, 13, 12], [10, 9, 7, 4, 1])),
  (⟨some 52, .bin .add none (.tmp 47) (.tmp 51), none⟩, none),
  (⟨some 4, .mov (.tmp 52), none⟩, none)]) (
 .seq (.seq (.ops [⟨some 5, .mov (.const (I 0)), none⟩]) (
 .block 0 (.loop g_spec_Encode_L0))) (
 .seq (.ops [⟨some 74, .fieldAddr 9 (.tmp 1), none⟩,
  ⟨some 75, .load false 1 (.tmp 74), none⟩,
  ⟨some 76, .call n_spec_ConfText [(.tmp 75)], none⟩,
  ⟨some 73, .mov (.tmp 76), none⟩,
  ⟨some 77, .extract 0 (.tmp 73), none⟩,
  ⟨some 78, .extract 1 (.tmp 73), none⟩,
  ⟨some 8, .mov (.tmp 77), none⟩,
  ⟨some 9, .mov (.tmp 78), none⟩]) (
 .seq (.draw [(⟨some 79, .mov (.tmp 4), none⟩, none),
  (⟨some 80, .mov (.tmp 8), none⟩, none),
  (⟨some 81, .call n_spec_l05Short [(.tmp 80)], none⟩, some (2, [], [])),
  (⟨some 82, .bin .add none (.tmp 79) (.tmp 81), none⟩, none),
  (⟨some 83, .fieldAddr 10 (.tmp 1), none⟩, none),
  (⟨some 84, .load false 1 (.tmp 83), none⟩, some (5, [], [2])),
  (⟨some 85, .call n_spec_l05Short [(.tmp 84)], none⟩, some (6, [5, 2], [])),
  (⟨some 86, .bin .add none (.tmp 82) (.tmp 85), none⟩, none),
  (⟨some 2, .mov (.tmp 86), none⟩, none),
  (⟨some 3, .mov (.const (.bool true)), none⟩, none)]) (
 .ret)))))),
 87, [.tmp 2, .tmp 3]⟩

def g_impl_scan_one : SFn := ⟨.seq (.ops [⟨some 2, .mov (.const (I 0)), none⟩]) (
 .seq (.seq (.draw [(⟨some 3, .mov (.tmp 0), none⟩, none),
  (⟨some 4, .nilChk (.tmp 3), none⟩, none),
  (⟨some 5, .fieldAddr 2 (.tmp 4), none⟩, none),
  (⟨some 6, .load false 1 (.tmp 5), none⟩, some (3, [], [])),
  (⟨some 7, .mov (.tmp 6), none⟩, none),
  (⟨some 8, .mov (.tmp 0), some (7, false)⟩, none),
  (⟨some 9, .nilChk (.tmp 8), some (7, false)⟩, none),
  (⟨some 10, .fieldAddr 1 (.tmp 9), some (7, false)⟩, none),
  (⟨some 11, .load false 1 (.tmp 10), some (7, false)⟩, some (8, [3], [])),
  (⟨some 12, .mov (.tmp 0), some (7, false)⟩, none),
  (⟨some 13, .nilChk (.tmp 12), some (7, false)⟩, none),
  (⟨some 14, .fieldAddr 0 (.tmp 13), some (7, false)⟩, none),
  (⟨some 15, .load false 1 (.tmp 14), some (7, false)⟩, some (12, [3], [8])),
  (⟨some 16, .len true (.tmp 15), some (7, false)⟩, none),
  (⟨some 17, .bin .geq none (.tmp 11) (.tmp 16), some (7, false)⟩, none),
  (⟨some 18, .pick (.tmp 7) (.const (.bool true)) (.tmp 17), none⟩, none)]) (
 .cond (.tmp 18) (.seq (.ops [⟨some 19, .mov (.tmp 0), none⟩,
  ⟨some 20, .nilChk (.tmp 19), none⟩,
  ⟨some 21, .fieldAddr 2 (.tmp 20), none⟩,
  ⟨none, .store 1 (.tmp 21) (.const (.bool true)), none⟩]) (
 .seq (.ops [⟨some 2, .mov (.const (I 0)), none⟩]) (
 .ret))) (
 .skip))) (
 .seq (.ops [⟨some 22, .mov (.tmp 0), none⟩,
  ⟨some 23, .nilChk (.tmp 22), none⟩,
  ⟨some 24, .fieldAddr 1 (.tmp 23), none⟩,
  ⟨some 25, .load false 1 (.tmp 24), none⟩,
  ⟨some 26, .bin .add none (.tmp 25) (.const (I 1)), none⟩,
  ⟨some 27, .nilChk (.tmp 22), none⟩,
  ⟨some 28, .fieldAddr 1 (.tmp 27), none⟩,
  ⟨none, .store 1 (.tmp 28) (.tmp 26), none⟩]) (
 .seq (.draw [(⟨some 29, .mov (.tmp 0), none⟩, none),
  (⟨some 30, .nilChk (.tmp 29), none⟩, none),
  (⟨some 31, .fieldAddr 0 (.tmp 30), none⟩, none),
  (⟨some 32, .load false 1 (.tmp 31), none⟩, some (3, [], [])),
  (⟨some 33, .mov (.tmp 0), none⟩, none),
  (⟨some 34, .nilChk (.tmp 33), none⟩, none),
  (⟨some 35, .fieldAddr 1 (.tmp 34), none⟩, none),
  (⟨some 36, .load false 1 (.tmp 35), none⟩, some (7, [], [3])),
  (⟨some 37, .bin .sub none (.tmp 36) (.const (I 1)), none⟩, none),
  (⟨some 38, .idxStr (.tmp 32) (.tmp 37), none⟩, none),
  (⟨some 39, .convInt .i64 (.tmp 38), none⟩, none),
  (⟨some 2, .mov (.tmp 39), none⟩, none)]) (
 .ret)))),
 40, [.tmp 2]⟩

def g_impl_scan_number : SFn := ⟨.seq (.ops [⟨some 2, .mov (.const (I 0)), none⟩]) (
 .seq (.draw [(⟨some 7, .mov (.tmp 0), none⟩, none),
  (⟨some 8, .nilChk (.tmp 7), none⟩, none),
  (⟨some 9, .fieldAddr 0 (.tmp 8), none⟩, none),
  (⟨some 10, .load false 1 (.tmp 9), none⟩, some (3, [], [])),
  (⟨some 11, .mov (.tmp 0), none⟩, none),
  (⟨some 12, .nilChk (.tmp 11), none⟩, none),
  (⟨some 13, .fieldAddr 1 (.tmp 12), none⟩, none),
  (⟨some 14, .load false 1 (.tmp 13), none⟩, some (7, [], [3])),
  (⟨some 15, .call n_impl_ReadVar [(.tmp 10), (.tmp 14)], none⟩, some (8, [7, 3], [])),
  (⟨some 6, .mov (.tmp 15), none⟩, none),
  (⟨some 16, .extract 0 (.tmp 6), none⟩, none),
  (⟨some 17, .extract 1 (.tmp 6), none⟩, none),
  (⟨some 18, .extract 2 (.tmp 6), none⟩, none),
  (⟨some 3, .mov (.tmp 16), none⟩, none),
  (⟨some 4, .mov (.tmp 17), none⟩, none),
  (⟨some 5, .mov (.tmp 18), none⟩, none)]) (
 .seq (.seq (.ops [⟨some 19, .mov (.tmp 0), none⟩,
  ⟨some 20, .nilChk (.tmp 19), none⟩,
  ⟨some 21, .fieldAddr 2 (.tmp 20), none⟩,
  ⟨some 22, .load false 1 (.tmp 21), none⟩,
  ⟨some 23, .mov (.tmp 22), none⟩,
  ⟨some 24, .mov (.tmp 5), some (23, false)⟩,
  ⟨some 25, .un .not (.tmp 24), some (23, false)⟩,
  ⟨some 26, .pick (.tmp 23) (.const (.bool true)) (.tmp 25), none⟩]) (
 .cond (.tmp 26) (.seq (.ops [⟨some 27, .mov (.tmp 0), none⟩,
  ⟨some 28, .nilChk (.tmp 27), none⟩,
  ⟨some 29, .fieldAddr 2 (.tmp 28), none⟩,
  ⟨none, .store 1 (.tmp 29) (.const (.bool true)), none⟩]) (
 .seq (.ops [⟨some 2, .mov (.const (I 0)), none⟩]) (
 .ret))) (
 .skip))) (
 .seq (.ops [⟨some 30, .mov (.tmp 0), none⟩,
  ⟨some 31, .mov (.tmp 4), none⟩,
  ⟨some 32, .nilChk (.tmp 30), none⟩,
  ⟨some 33, .fieldAddr 1 (.tmp 32), none⟩,
  ⟨none, .store 1 (.tmp 33) (.tmp 31), none⟩]) (
 .seq (.ops [⟨some 34, .mov (.tmp 3), none⟩,
  ⟨some 2, .mov (.tmp 34), none⟩]) (
 .ret))))),
 35, [.tmp 2]⟩

def g_impl_scan_sign : SFn := ⟨.seq (.ops [⟨some 2, .mov (.const (.bool false)), none⟩]) (
 .seq (.ops [⟨some 4, .mov (.tmp 0), none⟩,
  ⟨some 5, .call n_impl_scan_one [(.tmp 4)], none⟩,
  ⟨some 3, .mov (.tmp 5), none⟩]) (
 .seq (.seq (.ops [⟨some 6, .mov (.tmp 3), none⟩,
  ⟨some 7, .bin .gtr none (.tmp 6) (.const (I 1)), none⟩]) (
 .cond (.tmp 7) (.ops [⟨some 8, .mov (.tmp 0), none⟩,
  ⟨some 9, .nilChk (.tmp 8), none⟩,
  ⟨some 10, .fieldAddr 2 (.tmp 9), none⟩,
  ⟨none, .store 1 (.tmp 10) (.const (.bool true)), none⟩]) (
 .skip))) (
 .seq (.ops [⟨some 11, .mov (.tmp 3), none⟩,
  ⟨some 12, .bin .eql none (.tmp 11) (.const (I 1)), none⟩,
  ⟨some 2, .mov (.tmp 12), none⟩]) (
 .ret)))),
 13, [.tmp 2]⟩

def g_impl_scan_count : SFn := ⟨.seq (.ops [⟨some 4, .mov (.const (I 0)), none⟩]) (
 .seq (.ops [⟨some 6, .mov (.tmp 0), none⟩,
  ⟨some 7, .call n_impl_scan_number [(.tmp 6)], none⟩,
  ⟨some 5, .mov (.tmp 7), none⟩]) (
 .seq (.seq (.ops [⟨some 8, .mov (.tmp 5), none⟩,
  ⟨some 9, .mov (.tmp 1), none⟩,
  ⟨some 10, .bin .gtr none (.tmp 8) (.tmp 9), none⟩]) (
 .cond (.tmp 10) (.seq (.ops [⟨some 11, .mov (.tmp 0), none⟩,
  ⟨some 12, .nilChk (.tmp 11), none⟩,
  ⟨some 13, .fieldAddr 2 (.tmp 12), none⟩,
  ⟨none, .store 1 (.tmp 13) (.const (.bool true)), none⟩]) (
 .seq (.ops [⟨some 4, .mov (.const (I 0)), none⟩]) (
 .ret))) (
 .skip))) (
 .seq (.ops [⟨some 14, .mov (.tmp 5), none⟩,
  ⟨some 4, .mov (.tmp 14), none⟩]) (
 .ret)))),
 15, [.tmp 4]⟩

def g_impl_scan_short : SFn := ⟨.seq (.ops [⟨some 2, .mov (.const E), none⟩]) (
 .seq (.draw [(⟨some 7, .mov (.tmp 0), none⟩, none),
  (⟨some 8, .nilChk (.tmp 7), none⟩, none),
  (⟨some 9, .fieldAddr 0 (.tmp 8), none⟩, none),
  (⟨some 10, .load false 1 (.tmp 9), none⟩, some (3, [], [])),
  (⟨some 11, .mov (.tmp 0), none⟩, none),
  (⟨some 12, .nilChk (.tmp 11), none⟩, none),
  (⟨some 13, .fieldAddr 1 (.tmp 12), none⟩, none),
  (⟨some 14, .load false 1 (.tmp 13), none⟩, some (7, [], [3])),
  (⟨some 15, .call n_impl_ReadShort [(.tmp 10), (.tmp 14)], none⟩, some (8, [7, 3], [])),
  (⟨some 6, .mov (.tmp 15), none⟩, none),
  (⟨some 16, .extract 0 (.tmp 6), none⟩, none),
  (⟨some 17, .extract 1 (.tmp 6), none⟩, none),
  (⟨some 18, .extract 2 (.tmp 6), none⟩, none),
  (⟨some 3, .mov (.tmp 16), none⟩, none),
  (⟨some 4, .mov (.tmp 17), none⟩, none),
  (⟨some 5, .mov (.tmp 18), none⟩, none)]) (
 .seq (.seq (.ops [⟨some 19, .mov (.tmp 0), none⟩,
  ⟨some 20, .nilChk (.tmp 19), none⟩,
  ⟨some 21, .fieldAddr 2 (.tmp 20), none⟩,
  ⟨some 22, .load false 1 (.tmp 21), none⟩,
  ⟨some 23, .mov (.tmp 22), none⟩,
  ⟨some 24, .mov (.tmp 5), some (23, false)⟩,
  ⟨some 25, .un .not (.tmp 24), some (23, false)⟩,
  ⟨some 26, .pick (.tmp 23) (.const (.bool true)) (.tmp 25), none⟩]) (
 .cond (.tmp 26) (.seq (.ops [⟨some 27, .mov (.tmp 0), none⟩,
  ⟨some 28, .nilChk (.tmp 27), none⟩,
  ⟨some 29, .fieldAddr 2 (.tmp 28), none⟩,
  ⟨none, .store 1 (.tmp 29) (.const (.bool true)), none⟩]) (
 .seq (.ops [⟨some 2, .mov (.const E), none⟩]) (
 .ret))) (
 .skip))) (
 .seq (.ops [⟨some 30, .mov (.tmp 0), none⟩,
  ⟨some 31, .mov (.tmp 4), none⟩,
  ⟨some 32, .nilChk (.tmp 30), none⟩,
  ⟨some 33, .fieldAddr 1 (.tmp 32), none⟩,
  ⟨none, .store 1 (.tmp 33) (.tmp 31), none⟩]) (
 .seq (.ops [⟨some 34, .mov (.tmp 3), none⟩,
  ⟨some 2, .mov (.tmp 34), none⟩]) (
 .ret))))),
 35, [.tmp 2]⟩

def g_impl_ReadEntry : SFn := ⟨.seq (.ops [⟨some 2, .mov (.const (I 0)), none⟩,
  ⟨some 3, .new [(I 0), (I 0), E], none⟩,
  ⟨some 4, .mov (.const (.bool false)), none⟩]) (
 .seq (.ops [⟨some 9, .mov (.tmp 0), none⟩,
  ⟨some 10, .build [E, (I 0), (.bool false)] [(0, 1, (.tmp 9))], none⟩,
  ⟨some 11, .box (.tmp 10), none⟩,
  ⟨some 5, .mov (.tmp 11), none⟩]) (
 .seq (.ops [⟨some 12, .build [(I 0), (I 0), E] [], none⟩,
  ⟨some 6, .new [(I 0), (I 0), E], none⟩,
  ⟨none, .store 3 (.tmp 6) (.tmp 12), none⟩]) (
 .seq (.ops [⟨some 13, .mov (.tmp 5), none⟩,
  ⟨some 14, .call n_impl_scan_one [(.tmp 13)], none⟩,
  ⟨some 7, .mov (.tmp 14), none⟩]) (
 .seq (.ops [⟨some 15, .mov (.tmp 5), none⟩,
  ⟨some 16, .call n_impl_scan_number [(.tmp 15)], none⟩,
  ⟨some 8, .mov (.tmp 16), none⟩]) (
 .seq (.ops [⟨some 17, .mov (.tmp 5), none⟩,
  ⟨some 18, .call n_impl_scan_number [(.tmp 17)], none⟩,
  ⟨some 19, .fieldAddr 0 (.tmp 6), none⟩,
  ⟨none, .store 1 (.tmp 19) (.tmp 18), none⟩]) (
 .seq (.ops [⟨some 20, .mov (.tmp 5), none⟩,
  ⟨some 21, .call n_impl_scan_one [(.tmp 20)], none⟩,
  ⟨some 22, .fieldAddr 1 (.tmp 6), none⟩,
  ⟨none, .store 1 (.tmp 22) (.tmp 21), none⟩]) (
 .seq (.ops [⟨some 23, .mov (.tmp 5), none⟩,
  ⟨some 24, .call n_impl_scan_rest [(.tmp 23)], none⟩,
  ⟨some 25, .fieldAddr 2 (.tmp 6), none⟩,
  ⟨none, .store 1 (.tmp 25) (.tmp 24), none⟩]) (
 .seq (.seq (.ops [⟨some 26, .mov (.tmp 5), none⟩,
  ⟨some 27, .call n_impl_scan_done [(.tmp 26)], none⟩,
  ⟨some 28, .un .not (.tmp 27), none⟩,
  ⟨some 29, .mov (.tmp 28), none⟩,
  ⟨some 30, .mov (.tmp 7), some (29, false)⟩,
  ⟨some 31, .bin .neq none (.tmp 30) (.const (I 69)), some (29, false)⟩,
  ⟨some 32, .pick (.tmp 29) (.const (.bool true)) (.tmp 31), none⟩,
  ⟨some 33, .mov (.tmp 32), none⟩,
  ⟨some 34, .load true 3 (.tmp 6), some (33, false)⟩,
  ⟨some 35, .call n_impl_EntryOk [(.tmp 34)], some (33, false)⟩,
  ⟨some 36, .un .not (.tmp 35), some (33, false)⟩,
  ⟨some 37, .pick (.tmp 33) (.const (.bool true)) (.tmp 36), none⟩,
  ⟨some 38, .mov (.tmp 37), none⟩,
  ⟨some 39, .mov (.tmp 8), some (38, false)⟩,
  ⟨some 40, .call n_impl_within [(.tmp 39), (.const (I 1)), (.const (I 1000000))], some (38, false)⟩,
  ⟨some 41, .un .not (.tmp 40), some (38, false)⟩,
  ⟨some 42, .pick (.tmp 38) (.const (.bool true)) (.tmp 41), none⟩]) (
 .cond (.tmp 42) (.seq (.ops [⟨some 43, .build [(I 0), (I 0), E] [], none⟩,
  ⟨some 2, .mov (.const (I 0)), none⟩,
  ⟨none, .store 3 (.tmp 3) (.tmp 43), none⟩,
  ⟨some 4, .mov (.const (.bool false)), none⟩]) (
 .ret)) (
 .skip))) (
 .seq (.draw [(⟨some 44, .mov (.tmp 8), none⟩, none),
  (⟨some 45, .load true 3 (.tmp 6), none⟩, some (1, [], [])),
  (⟨some 2, .mov (.tmp 44), none⟩, none),
  (⟨none, .store 3 (.tmp 3) (.tmp 45), none⟩, some (3, [1], [])),
  (⟨some 4, .mov (.const (.bool true)), none⟩, none)]) (
 .ret)))))))))),
 46, [.tmp 2, .cell true 3 3, .tmp 4]⟩

def g_impl_scan_done : SFn := ⟨.seq (.ops [⟨some 2, .mov (.const (.bool false)), none⟩]) (
 .seq (.draw [(⟨some 3, .mov (.tmp 0), none⟩, none),
  (⟨some 4, .nilChk (.tmp 3), none⟩, none),
  (⟨some 5, .fieldAddr 2 (.tmp 4), none⟩, none),
  (⟨some 6, .load false 1 (.tmp 5), none⟩, some (3, [], [])),
  (⟨some 7, .un .not (.tmp 6), none⟩, none),
  (⟨some 8, .mov (.tmp 7), none⟩, none),
  (⟨some 9, .mov (.tmp 0), some (8, true)⟩, none),
  (⟨some 10, .nilChk (.tmp 9), some (8, true)⟩, none),
  (⟨some 11, .fieldAddr 1 (.tmp 10), some (8, true)⟩, none),
  (⟨some 12, .load false 1 (.tmp 11), some (8, true)⟩, some (9, [3], [])),
  (⟨some 13, .mov (.tmp 0), some (8, true)⟩, none),
  (⟨some 14, .nilChk (.tmp 13), some (8, true)⟩, none),
  (⟨some 15, .fieldAddr 0 (.tmp 14), some (8, true)⟩, none),
  (⟨some 16, .load false 1 (.tmp 15), some (8, true)⟩, some (13, [3], [9])),
  (⟨some 17, .len true (.tmp 16), some (8, true)⟩, none),
  (⟨some 18, .bin .eql none (.tmp 12) (.tmp 17), some (8, true)⟩, none),
  (⟨some 19, .pick (.tmp 8) (.tmp 18) (.const (.bool false)), none⟩, none),
  (⟨some 2, .mov (.tmp 19), none⟩, none)]) (
 .ret)),
 20, [.tmp 2]⟩

def g_laws_eqEntryS_L0 : SC := .seq (.seq (.ops [⟨some 11, .mov (.tmp 5), none⟩,
  ⟨some 12, .mov (.tmp 0), none⟩,
  ⟨some 13, .len false (.tmp 12), none⟩,
  ⟨some 14, .bin .lss none (.tmp 11) (.tmp 13), none⟩]) (
 .cond (.tmp 14) (.skip) (
 .exit 0))) (
 .seq (.block 1 (.seq (.draw [(⟨some 17, .mov (.tmp 0), none⟩, none),
  (⟨some 18, .mov (.tmp 5), none⟩, none),
  (⟨some 19, .idxAddr 3 (.tmp 17) (.tmp 18), none⟩, none),
  (⟨some 20, .load true 3 (.tmp 19), none⟩, some (3, [], [])),
  (⟨some 21, .mov (.tmp 1), none⟩, none),
  (⟨some 22, .mov (.tmp 5), none⟩, none),
  (⟨some 23, .idxAddr 3 (.tmp 21) (.tmp 22), none⟩, none),
  (⟨some 24, .load true 3 (.tmp 23), none⟩, some (7, [], [3])),
  (⟨some 25, .call n_laws_eqEntry [(.tmp 20), (.tmp 24)], none⟩, some (8, [7, 3], [])),
  (⟨some 26, .un .not (.tmp 25), none⟩, none)]) (
 .cond (.tmp 26) (.seq (.ops [⟨some 4, .mov (.const (.bool false)), none⟩]) (
 .ret)) (
 .skip)))) (
 .ops [⟨some 15, .mov (.tmp 5), none⟩,
  ⟨some 16, .bin .add none (.tmp 15) (.const (I 1)), none⟩,
  ⟨some 5, .mov (.tmp 16), none⟩]))

def g_laws_eqEntryS : SFn := ⟨.seq (.ops [⟨some 4, .mov (.const (.bool false)), none⟩]) (
 .seq (.seq (.ops [⟨some 6, .mov (.tmp 0), none⟩,
  ⟨some 7, .len false (.tmp 6), none⟩,
  ⟨some 8, .mov (.tmp 1), none⟩,
  ⟨some 9, .len false (.tmp 8), none⟩,
  ⟨some 10, .bin .neq none (.tmp 7) (.tmp 9), none⟩]) (
 .cond (.tmp 10) (.seq (.ops [⟨some 4, .mov (.const (.bool false)), none⟩]) (
 .ret)) (
 .skip))) (
 .seq (.seq (.ops [⟨some 5, .mov (.const (I 0)), none⟩]) (
 .block 0 (.loop g_laws_eqEntryS_L0))) (
 .seq (.ops [⟨some 4, .mov (.const (.bool true)), none⟩]) (
 .ret)))),
 27, [.tmp 4]⟩

def g_laws_markEntryS_L0 : SC := .seq (.seq (.ops [⟨some 6, .mov (.tmp 5), none⟩,
  ⟨some 7, .mov (.tmp 0), none⟩,
  ⟨some 8, .len false (.tmp 7), none⟩,
  ⟨some 9, .bin .lss none (.tmp 6) (.tmp 8), none⟩]) (
 .cond (.tmp 9) (.skip) (
 .exit 0))) (
 .seq (.block 1 (.seq (.ops [⟨some 12, .mov (.tmp 0), none⟩,
  ⟨some 13, .mov (.tmp 5), none⟩,
  ⟨some 14, .mov (.tmp 1), none⟩,
  ⟨some 15, .idxAddr 3 (.tmp 12) (.tmp 13), none⟩,
  ⟨some 16, .fieldAddr 0 (.tmp 15), none⟩,
  ⟨none, .store 1 (.tmp 16) (.tmp 14), none⟩]) (
 .seq (.ops [⟨some 17, .mov (.tmp 1), none⟩,
  ⟨some 18, .bin .add none (.tmp 17) (.const (I 1)), none⟩,
  ⟨some 1, .mov (.tmp 18), none⟩]) (
 .seq (.ops [⟨some 19, .mov (.tmp 0), none⟩,
  ⟨some 20, .mov (.tmp 5), none⟩,
  ⟨some 21, .mov (.tmp 1), none⟩,
  ⟨some 22, .idxAddr 3 (.tmp 19) (.tmp 20), none⟩,
  ⟨some 23, .fieldAddr 1 (.tmp 22), none⟩,
  ⟨none, .store 1 (.tmp 23) (.tmp 21), none⟩]) (
 .seq (.ops [⟨some 24, .mov (.tmp 1), none⟩,
  ⟨some 25, .bin .add none (.tmp 24) (.const (I 1)), none⟩,
  ⟨some 1, .mov (.tmp 25), none⟩]) (
 .seq (.ops [⟨some 26, .mov (.tmp 0), none⟩,
  ⟨some 27, .mov (.tmp 5), none⟩,
  ⟨some 28, .mov (.tmp 1), none⟩,
  ⟨some 29, .call n_laws_markText [(.tmp 28)], none⟩,
  ⟨some 30, .idxAddr 3 (.tmp 26) (.tmp 27), none⟩,
  ⟨some 31, .fieldAddr 2 (.tmp 30), none⟩,
  ⟨none, .store 1 (.tmp 31) (.tmp 29), none⟩]) (
 .ops [⟨some 32, .mov (.tmp 1), none⟩,
  ⟨some 33, .bin .add none (.tmp 32) (.const (I 1)), none⟩,
  ⟨some 1, .mov (.tmp 33), none⟩]))))))) (
 .ops [⟨some 10, .mov (.tmp 5), none⟩,
  ⟨some 11, .bin .add none (.tmp 10) (.const (I 1)), none⟩,
  ⟨some 5, .mov (.tmp 11), none⟩]))

def g_laws_markEntryS : SFn := ⟨.seq (.ops [⟨some 4, .mov (.const (I 0)), none⟩]) (
 .seq (.seq (.ops [⟨some 5, .mov (.const (I 0)), none⟩]) (
 .block 0 (.loop g_laws_markEntryS_L0))) (
 .seq (.ops [⟨some 34, .mov (.tmp 1), none⟩,
  ⟨some 4, .mov (.tmp 34), none⟩]) (
 .ret))),
 35, [.tmp 4]⟩

def g_laws_heldEntryS_L0 : SC := .seq (.seq (.ops [⟨some 6, .mov (.tmp 5), none⟩,
  ⟨some 7, .mov (.tmp 0), none⟩,
  ⟨some 8, .len false (.tmp 7), none⟩,
  ⟨some 9, .bin .lss none (.tmp 6) (.tmp 8), none⟩]) (
 .cond (.tmp 9) (.skip) (
 .exit 0))) (
 .seq (.block 1 (.seq (.seq (.ops [⟨some 12, .mov (.tmp 0), none⟩,
  ⟨some 13, .mov (.tmp 5), none⟩,
  ⟨some 14, .idxAddr 3 (.tmp 12) (.tmp 13), none⟩,
  ⟨some 15, .fieldAddr 0 (.tmp 14), none⟩,
  ⟨some 16, .load false 1 (.tmp 15), none⟩,
  ⟨some 17, .mov (.tmp 1), none⟩,
  ⟨some 18, .bin .neq none (.tmp 16) (.tmp 17), none⟩]) (
 .cond (.tmp 18) (.seq (.ops [⟨some 4, .mov (.const (I (-1))), none⟩]) (
 .ret)) (
 .skip))) (
 .seq (.ops [⟨some 19, .mov (.tmp 1), none⟩,
  ⟨some 20, .bin .add none (.tmp 19) (.const (I 1)), none⟩,
  ⟨some 1, .mov (.tmp 20), none⟩]) (
 .seq (.seq (.ops [⟨some 21, .mov (.tmp 0), none⟩,
  ⟨some 22, .mov (.tmp 5), none⟩,
  ⟨some 23, .idxAddr 3 (.tmp 21) (.tmp 22), none⟩,
  ⟨some 24, .fieldAddr 1 (.tmp 23), none⟩,
  ⟨some 25, .load false 1 (.tmp 24), none⟩,
  ⟨some 26, .mov (.tmp 1), none⟩,
  ⟨some 27, .bin .neq none (.tmp 25) (.tmp 26), none⟩]) (
 .cond (.tmp 27) (.seq (.ops [⟨some 4, .mov (.const (I (-1))), none⟩]) (
 .ret)) (
 .skip))) (
 .seq (.ops [⟨some 28, .mov (.tmp 1), none⟩,
  ⟨some 29, .bin .add none (.tmp 28) (.const (I 1)), none⟩,
  ⟨some 1, .mov (.tmp 29), none⟩]) (
 .seq (.seq (.draw [(⟨some 30, .mov (.tmp 0), none⟩, none),
  (⟨some 31, .mov (.tmp 5), none⟩, none),
  (⟨some 32, .idxAddr 3 (.tmp 30) (.tmp 31), none⟩, none),
  (⟨some 33, .fieldAddr 2 (.tmp 32), none⟩, none),
  (⟨some 34, .load false 1 (.tmp 33), none⟩, some (4, [], [])),
  (⟨some 35, .mov (.tmp 1), none⟩, none),
  (⟨some 36, .call n_laws_markText [(.tmp 35)], none⟩, some (6, [], [4])),
  (⟨some 37, .bin .neq none (.tmp 34) (.tmp 36), none⟩, none)]) (
 .cond (.tmp 37) (.seq (.ops [⟨some 4, .mov (.const (I (-1))), none⟩]) (
 .ret)) (
 .skip))) (
 .ops [⟨some 38, .mov (.tmp 1), none⟩,
  ⟨some 39, .bin .add none (.tmp 38) (.const (I 1)), none⟩,
  ⟨some 1, .mov (.tmp 39), none⟩]))))))) (
 .ops [⟨some 10, .mov (.tmp 5), none⟩,
  ⟨some 11, .bin .add none (.tmp 10) (.const (I 1)), none⟩,
  ⟨some 5, .mov (.tmp 11), none⟩]))

def g_laws_heldEntryS : SFn := ⟨.seq (.ops [⟨some 4, .mov (.const (I 0)), none⟩]) (
 .seq (.seq (.ops [⟨some 5, .mov (.const (I 0)), none⟩]) (
 .block 0 (.loop g_laws_heldEntryS_L0))) (
 .seq (.ops [⟨some 40, .mov (.tmp 1), none⟩,
  ⟨some 4, .mov (.tmp 40), none⟩]) (
 .ret))),
 41, [.tmp 4]⟩

def g_spec_l17Any : SFn := ⟨.seq (.ops [⟨some 2, .new [(I 0), (I 0), (I 0), (I 0), (I 0), (I 0), (I 0), (.bool false), (.slice none 0 0), (.slice none 0 0), E, (.bool false)], none⟩]) (
 .seq (.ops [⟨some 4, .mov (.tmp 0), none⟩,
  ⟨some 5, .call n_spec_l17Right [(.tmp 4)], none⟩,
  ⟨some 3, .new [(I 0), (I 0), (I 0), (I 0), (I 0), (I 0), (I 0), (.bool false), (.slice none 0 0), (.slice none 0 0), E, (.bool false)], none⟩,
  ⟨none, .store 12 (.tmp 3) (.tmp 5), none⟩]) (
 .seq (.seq (.ops [⟨some 6, .mov (.tmp 0), none⟩,
  ⟨some 7, .call n_spec_l01Below [(.tmp 6), (.const (I 40))], none⟩]) (
 .block 0 (.seq (.ops [⟨some 9, .bin .eql none (.tmp 7) (.const (I 0)), none⟩,
  ⟨some 8, .mov (.tmp 9), none⟩]) (
 .cond (.tmp 8) (.ops [⟨some 10, .mov (.tmp 0), none⟩,
  ⟨some 11, .arr 1 [(I 0)] 4 [(0, 1, (.const (I 0))), (1, 1, (.const (I 7))), (2, 1, (.const (I 1))), (3, 1, (.const (I 5)))], none⟩,
  ⟨some 12, .call n_spec_l01PickInt [(.tmp 10), (.tmp 11)], none⟩,
  ⟨some 13, .fieldAddr 0 (.tmp 3), none⟩,
  ⟨none, .store 1 (.tmp 13) (.tmp 12), none⟩]) (
 .seq (.ops [⟨some 15, .bin .eql none (.tmp 7) (.const (I 1)), none⟩,
  ⟨some 14, .mov (.tmp 15), none⟩]) (
 .cond (.tmp 14) (.ops [⟨some 16, .mov (.tmp 0), none⟩,
  ⟨some 17, .fieldAddr 2 (.tmp 3), none⟩,
  ⟨some 18, .load false 1 (.tmp 17), none⟩,
  ⟨some 19, .arr 1 [(I 0)] 3 [(0, 1, (.const (I 0))), (1, 1, (.const (I 5))), (2, 1, (.tmp 18))], none⟩,
  ⟨some 20, .call n_spec_l01PickInt [(.tmp 16), (.tmp 19)], none⟩,
  ⟨some 21, .fieldAddr 1 (.tmp 3), none⟩,
  ⟨none, .store 1 (.tmp 21) (.tmp 20), none⟩]) (
 .seq (.ops [⟨some 23, .bin .eql none (.tmp 7) (.const (I 2)), none⟩,
  ⟨some 22, .mov (.tmp 23), none⟩]) (
 .cond (.tmp 22) (.ops [⟨some 24, .mov (.tmp 0), none⟩,
  ⟨some 25, .arr 1 [(I 0)] 3 [(0, 1, (.const (I (-1)))), (1, 1, (.const (I 100000))), (2, 1, (.const (I 100001)))], none⟩,
  ⟨some 26, .call n_spec_l01PickInt [(.tmp 24), (.tmp 25)], none⟩,
  ⟨some 27, .fieldAddr 3 (.tmp 3), none⟩,
  ⟨none, .store 1 (.tmp 27) (.tmp 26), none⟩]) (
 .seq (.ops [⟨some 29, .bin .eql none (.tmp 7) (.const (I 3)), none⟩,
  ⟨some 28, .mov (.tmp 29), none⟩]) (
 .cond (.tmp 28) (.ops [⟨some 30, .mov (.tmp 0), none⟩,
  ⟨some 31, .arr 1 [(I 0)] 3 [(0, 1, (.const (I (-1)))), (1, 1, (.const (I 1000000))), (2, 1, (.const (I 1000001)))], none⟩,
  ⟨some 32, .call n_spec_l01PickInt [(.tmp 30), (.tmp 31)], none⟩,
  ⟨some 33, .fieldAddr 4 (.tmp 3), none⟩,
  ⟨none, .store 1 (.tmp 33) (.tmp 32), none⟩]) (
 .seq (.ops [⟨some 35, .bin .eql none (.tmp 7) (.const (I 4)), none⟩,
  ⟨some 34, .mov (.tmp 35), none⟩]) (
 .cond (.tmp 34) (.draw [(⟨some 36, .fieldAddr 8 (.tmp 3), none⟩, none),
  (⟨some 37, .load false 1 (.tmp 36), none⟩, some (1, [], [])),
  (⟨some 38, .mov (.tmp 0), none⟩, none),
  (⟨some 39, .call n_spec_l05Any [(.tmp 38)], none⟩, some (3, [], [1])),
  (⟨some 40, .arr 3 [(I 0), (I 0), E] 1 [(0, 3, (.tmp 39))], none⟩, some (4, [3], [1])),
  (⟨some 41, .append 3 32 [(I 0), (I 0), E] (.tmp 37) (.tmp 40), none⟩, some (5, [4, 3, 1], [])),
  (⟨some 42, .fieldAddr 8 (.tmp 3), none⟩, none),
  (⟨none, .store 1 (.tmp 42) (.tmp 41), none⟩, some (7, [5, 4, 3, 1], []))]) (
 .seq (.ops [⟨some 44, .bin .eql none (.tmp 7) (.const (I 5)), none⟩,
  ⟨some 43, .mov (.tmp 44), none⟩]) (
 .cond (.tmp 43) (.ops [⟨some 45, .mov (.tmp 0), none⟩,
  ⟨some 46, .call n_spec_l01Below [(.tmp 45), (.const (I 2))], none⟩,
  ⟨some 47, .bin .add none (.const (I 60)) (.tmp 46), none⟩,
  ⟨some 48, .call n_spec_l01Long [(.tmp 47), (.const (.int .u8 65))], none⟩,
  ⟨some 49, .fieldAddr 10 (.tmp 3), none⟩,
  ⟨none, .store 1 (.tmp 49) (.tmp 48), none⟩]) (
 .seq (.ops [⟨some 51, .bin .eql none (.tmp 7) (.const (I 6)), none⟩,
  ⟨some 50, .mov (.tmp 51), none⟩]) (
 .cond (.tmp 50) (.ops [⟨some 52, .mov (.tmp 0), none⟩,
  ⟨some 53, .call n_spec_l05AnyConf [(.tmp 52)], none⟩,
  ⟨some 54, .fieldAddr 9 (.tmp 3), none⟩,
  ⟨none, .store 1 (.tmp 54) (.tmp 53), none⟩]) (
 .seq (.ops [⟨some 56, .bin .eql none (.tmp 7) (.const (I 7)), none⟩,
  ⟨some 55, .mov (.tmp 56), none⟩]) (
 .cond (.tmp 55) (.ops [⟨some 57, .fieldAddr 11 (.tmp 3), none⟩,
  ⟨none, .store 1 (.tmp 57) (.const (.bool true)), none⟩]) (
 .skip))))))))))))))))))) (
 .seq (.ops [⟨some 58, .load true 12 (.tmp 3), none⟩,
  ⟨none, .store 12 (.tmp 2) (.tmp 58), none⟩]) (
 .ret)))),
 59, [.cell true 12 2]⟩

def g_spec_l01New_L0 : SC := .seq (.seq (.ops [⟨some 8, .mov (.tmp 4), none⟩,
  ⟨some 9, .mov (.tmp 0), none⟩,
  ⟨some 10, .len false (.tmp 9), none⟩,
  ⟨some 11, .bin .lss none (.tmp 8) (.tmp 10), none⟩,
  ⟨some 12, .mov (.tmp 11), none⟩,
  ⟨some 13, .mov (.tmp 4), some (12, true)⟩,
  ⟨some 14, .bin .lss none (.tmp 13) (.const (I 4000)), some (12, true)⟩,
  ⟨some 15, .pick (.tmp 12) (.tmp 14) (.const (.bool false)), none⟩]) (
 .cond (.tmp 15) (.skip) (
 .exit 0))) (
 .seq (.block 1 (.ops [⟨some 18, .mov (.tmp 3), none⟩,
  ⟨some 19, .bin .mul none (.tmp 18) (.const (I 131)), none⟩,
  ⟨some 20, .mov (.tmp 0), none⟩,
  ⟨some 21, .mov (.tmp 4), none⟩,
  ⟨some 22, .idxAddr 1 (.tmp 20) (.tmp 21), none⟩,
  ⟨some 23, .load false 1 (.tmp 22), none⟩,
  ⟨some 24, .convInt .i64 (.tmp 23), none⟩,
  ⟨some 25, .bin .add none (.tmp 19) (.tmp 24), none⟩,
  ⟨some 26, .bin .add none (.tmp 25) (.const (I 7)), none⟩,
  ⟨some 27, .bin .and none (.tmp 26) (.const (I 1073741823)), none⟩,
  ⟨some 3, .mov (.tmp 27), none⟩])) (
 .ops [⟨some 16, .mov (.tmp 4), none⟩,
  ⟨some 17, .bin .add none (.tmp 16) (.const (I 1)), none⟩,
  ⟨some 4, .mov (.tmp 17), none⟩]))

def g_spec_l01New : SFn := ⟨.seq (.ops [⟨some 2, .mov (.const (.pointer none)), none⟩]) (
 .seq (.ops [⟨some 5, .mov (.tmp 0), none⟩,
  ⟨some 6, .len false (.tmp 5), none⟩,
  ⟨some 7, .bin .add none (.const (I 37401)) (.tmp 6), none⟩,
  ⟨some 3, .mov (.tmp 7), none⟩]) (
 .seq (.seq (.ops [⟨some 4, .mov (.const (I 0)), none⟩]) (
 .block 0 (.loop g_spec_l01New_L0))) (
 .seq (.ops [⟨some 28, .mov (.tmp 0), none⟩,
  ⟨some 29, .mov (.tmp 3), none⟩,
  ⟨some 30, .build [(.slice none 0 0), (I 0), (I 0)] [(0, 1, (.tmp 28)), (2, 1, (.tmp 29))], none⟩,
  ⟨some 31, .box (.tmp 30), none⟩,
  ⟨some 2, .mov (.tmp 31), none⟩]) (
 .ret)))),
 32, [.tmp 2]⟩

def g_impl_byteTexts_L0 : SC := .seq (.ops [⟨some 10, .bin .lss none (.tmp 9) (.tmp 8), none⟩]) (
 .seq (.cond (.tmp 10) (.skip) (
 .exit 0)) (
 .seq (.block 1 (.seq (.ops [⟨some 11, .idxAddr 1 (.tmp 7) (.tmp 9), none⟩,
  ⟨some 12, .load false 1 (.tmp 11), none⟩,
  ⟨some 5, .mov (.tmp 12), none⟩]) (
 .ops [⟨some 13, .mov (.tmp 3), none⟩,
  ⟨some 14, .mov (.tmp 5), none⟩,
  ⟨some 15, .convInt .u8 (.tmp 14), none⟩,
  ⟨some 16, .arr 1 [(.int .u8 0)] 1 [(0, 1, (.tmp 15))], none⟩,
  ⟨some 17, .append 1 1 [(.int .u8 0)] (.tmp 13) (.tmp 16), none⟩,
  ⟨some 3, .mov (.tmp 17), none⟩]))) (
 .ops [⟨some 18, .bin .add none (.tmp 9) (.const (I 1)), none⟩,
  ⟨some 9, .mov (.tmp 18), none⟩])))

def g_impl_byteTexts : SFn := ⟨.seq (.ops [⟨some 2, .mov (.const E), none⟩]) (
 .seq (.ops [⟨some 6, .arr 1 [(.int .u8 0)] 0 [], none⟩,
  ⟨some 3, .mov (.tmp 6), none⟩]) (
 .seq (.seq (.ops [⟨some 7, .mov (.tmp 0), none⟩,
  ⟨some 8, .len false (.tmp 7), none⟩,
  ⟨some 9, .mov (.const (I 0)), none⟩]) (
 .block 0 (.loop g_impl_byteTexts_L0))) (
 .seq (.ops [⟨some 19, .mov (.tmp 3), none⟩,
  ⟨some 20, .convB2S (.tmp 19), none⟩,
  ⟨some 2, .mov (.tmp 20), none⟩]) (
 .ret)))),
 21, [.tmp 2]⟩

def g_impl_varTexts_L0 : SC := .seq (.ops [⟨some 11, .bin .lss none (.tmp 10) (.tmp 9), none⟩]) (
 .seq (.cond (.tmp 11) (.skip) (
 .exit 0)) (
 .seq (.block 1 (.seq (.ops [⟨some 12, .idxAddr 1 (.tmp 8) (.tmp 10), none⟩,
  ⟨some 13, .load false 1 (.tmp 12), none⟩,
  ⟨some 5, .mov (.tmp 13), none⟩]) (
 .seq (.ops [⟨some 15, .mov (.tmp 5), none⟩,
  ⟨some 16, .call n_impl_VarText [(.tmp 15)], none⟩,
  ⟨some 14, .mov (.tmp 16), none⟩,
  ⟨some 17, .extract 0 (.tmp 14), none⟩,
  ⟨some 18, .extract 1 (.tmp 14), none⟩,
  ⟨some 6, .mov (.tmp 17), none⟩,
  ⟨some 7, .mov (.tmp 18), none⟩]) (
 .ops [⟨some 19, .mov (.tmp 3), none⟩,
  ⟨some 20, .mov (.tmp 6), none⟩,
  ⟨some 21, .bin .add none (.tmp 19) (.tmp 20), none⟩,
  ⟨some 3, .mov (.tmp 21), none⟩])))) (
 .ops [⟨some 22, .bin .add none (.tmp 10) (.const (I 1)), none⟩,
  ⟨some 10, .mov (.tmp 22), none⟩])))

def g_impl_varTexts : SFn := ⟨.seq (.ops [⟨some 2, .mov (.const E), none⟩]) (
 .seq (.ops [⟨some 3, .mov (.const E), none⟩]) (
 .seq (.seq (.ops [⟨some 8, .mov (.tmp 0), none⟩,
  ⟨some 9, .len false (.tmp 8), none⟩,
  ⟨some 10, .mov (.const (I 0)), none⟩]) (
 .block 0 (.loop g_impl_varTexts_L0))) (
 .seq (.ops [⟨some 23, .mov (.tmp 3), none⟩,
  ⟨some 2, .mov (.tmp 23), none⟩]) (
 .ret)))),
 24, [.tmp 2]⟩

def g_impl_flag : SFn := ⟨.seq (.ops [⟨some 2, .mov (.const (I 0)), none⟩]) (
 .seq (.seq (.ops [⟨some 3, .mov (.tmp 0), none⟩]) (
 .cond (.tmp 3) (.seq (.ops [⟨some 2, .mov (.const (I 1)), none⟩]) (
 .ret)) (
 .skip))) (
 .seq (.ops [⟨some 2, .mov (.const (I 0)), none⟩]) (
 .ret))),
 4, [.tmp 2]⟩

def g_impl_EntryText : SFn := ⟨.seq (.ops [⟨some 3, .box (.tmp 1), none⟩,
  ⟨some 4, .mov (.const E), none⟩,
  ⟨some 5, .mov (.const (.bool false)), none⟩]) (
 .seq (.seq (.ops [⟨some 6, .load true 3 (.tmp 3), none⟩,
  ⟨some 7, .call n_impl_EntryOk [(.tmp 6)], none⟩,
  ⟨some 8, .un .not (.tmp 7), none⟩,
  ⟨some 9, .mov (.tmp 8), none⟩,
  ⟨some 10, .mov (.tmp 0), some (9, false)⟩,
  ⟨some 11, .call n_impl_within [(.tmp 10), (.const (I 1)), (.const (I 1000000))], some (9, false)⟩,
  ⟨some 12, .un .not (.tmp 11), some (9, false)⟩,
  ⟨some 13, .pick (.tmp 9) (.const (.bool true)) (.tmp 12), none⟩]) (
 .cond (.tmp 13) (.seq (.ops [⟨some 4, .mov (.const E), none⟩,
  ⟨some 5, .mov (.const (.bool false)), none⟩]) (
 .ret)) (
 .skip))) (
 .seq (.draw [(⟨some 14, .mov (.tmp 0), none⟩, none),
  (⟨some 15, .fieldAddr 0 (.tmp 3), none⟩, none),
  (⟨some 16, .load false 1 (.tmp 15), none⟩, some (2, [], [])),
  (⟨some 17, .arr 1 [(I 0)] 2 [(0, 1, (.tmp 14)), (1, 1, (.tmp 16))], none⟩, some (3, [2], [])),
  (⟨some 18, .call n_impl_varTexts [(.tmp 17)], none⟩, some (4, [3, 2], [])),
  (⟨some 19, .bin .add none (.const (T [69])) (.tmp 18), none⟩, none),
  (⟨some 20, .fieldAddr 1 (.tmp 3), none⟩, none),
  (⟨some 21, .load false 1 (.tmp 20), none⟩, some (7, [], [4, 3, 2])),
  (⟨some 22, .arr 1 [(I 0)] 1 [(0, 1, (.tmp 21))], none⟩, some (8, [7], [4, 3, 2])),
  (⟨some 23, .call n_impl_byteTexts [(.tmp 22)], none⟩, some (9, [8, 7, 4, 3, 2], [])),
  (⟨some 24, .bin .add none (.tmp 19) (.tmp 23), none⟩, none),
  (⟨some 25, .fieldAddr 2 (.tmp 3), none⟩, none),
  (⟨some 26, .load false 1 (.tmp 25), none⟩, some (12, [], [9, 8, 7, 4, 3, 2])),
  (⟨some 27, .bin .add none (.tmp 24) (.tmp 26), none⟩, none),
  (⟨some 4, .mov (.tmp 27), none⟩, none),
  (⟨some 5, .mov (.const (.bool true)), none⟩, none)]) (
 .ret))),
 28, [.tmp 4, .tmp 5]⟩

def g_impl_shortTexts_L0 : SC := .seq (.ops [⟨some 11, .bin .lss none (.tmp 10) (.tmp 9), none⟩]) (
 .seq (.cond (.tmp 11) (.skip) (
 .exit 0)) (
 .seq (.block 1 (.seq (.ops [⟨some 12, .idxAddr 1 (.tmp 8) (.tmp 10), none⟩,
  ⟨some 13, .load false 1 (.tmp 12), none⟩,
  ⟨some 5, .mov (.tmp 13), none⟩]) (
 .seq (.ops [⟨some 15, .mov (.tmp 5), none⟩,
  ⟨some 16, .call n_impl_ShortText [(.tmp 15)], none⟩,
  ⟨some 14, .mov (.tmp 16), none⟩,
  ⟨some 17, .extract 0 (.tmp 14), none⟩,
  ⟨some 18, .extract 1 (.tmp 14), none⟩,
  ⟨some 6, .mov (.tmp 17), none⟩,
  ⟨some 7, .mov (.tmp 18), none⟩]) (
 .ops [⟨some 19, .mov (.tmp 3), none⟩,
  ⟨some 20, .mov (.tmp 6), none⟩,
  ⟨some 21, .bin .add none (.tmp 19) (.tmp 20), none⟩,
  ⟨some 3, .mov (.tmp 21), none⟩])))) (
 .ops [⟨some 22, .bin .add none (.tmp 10) (.const (I 1)), none⟩,
  ⟨some 10, .mov (.tmp 22), none⟩])))

def g_impl_shortTexts : SFn := ⟨.seq (.ops [⟨some 2, .mov (.const E), none⟩]) (
 .seq (.ops [⟨some 3, .mov (.const E), none⟩]) (
 .seq (.seq (.ops [⟨some 8, .mov (.tmp 0), none⟩,
  ⟨some 9, .len false (.tmp 8), none⟩,
  ⟨some 10, .mov (.const (I 0)), none⟩]) (
 .block 0 (.loop g_impl_shortTexts_L0))) (
 .seq (.ops [⟨some 23, .mov (.tmp 3), none⟩,
  ⟨some 2, .mov (.tmp 23), none⟩]) (
 .ret)))),
 24, [.tmp 2]⟩

def g_spec_l01In : SFn := ⟨.seq (.ops [⟨some 6, .mov (.const (.bool false)), none⟩]) (
 .seq (.ops [⟨some 7, .mov (.tmp 0), none⟩,
  ⟨some 8, .mov (.tmp 1), none⟩,
  ⟨some 9, .bin .geq none (.tmp 7) (.tmp 8), none⟩,
  ⟨some 10, .mov (.tmp 9), none⟩,
  ⟨some 11, .mov (.tmp 0), some (10, true)⟩,
  ⟨some 12, .mov (.tmp 2), some (10, true)⟩,
  ⟨some 13, .bin .leq none (.tmp 11) (.tmp 12), some (10, true)⟩,
  ⟨some 14, .pick (.tmp 10) (.tmp 13) (.const (.bool false)), none⟩,
  ⟨some 6, .mov (.tmp 14), none⟩]) (
 .ret)),
 15, [.tmp 6]⟩

def g_spec_EntryOk : SFn := ⟨.seq (.ops [⟨some 1, .box (.tmp 0), none⟩,
  ⟨some 2, .mov (.const (.bool false)), none⟩]) (
 .seq (.seq (.ops [⟨some 5, .fieldAddr 0 (.tmp 1), none⟩,
  ⟨some 6, .load false 1 (.tmp 5), none⟩,
  ⟨some 7, .call n_spec_l01In [(.tmp 6), (.const (I 0)), (.const (I 100000))], none⟩,
  ⟨some 8, .un .not (.tmp 7), none⟩]) (
 .cond (.tmp 8) (.seq (.ops [⟨some 2, .mov (.const (.bool false)), none⟩]) (
 .ret)) (
 .skip))) (
 .seq (.seq (.ops [⟨some 9, .fieldAddr 1 (.tmp 1), none⟩,
  ⟨some 10, .load false 1 (.tmp 9), none⟩]) (
 .block 0 (.seq (.ops [⟨some 12, .bin .eql none (.tmp 10) (.const (I 1)), none⟩,
  ⟨some 11, .mov (.tmp 12), none⟩]) (
 .cond (.tmp 11) (.seq (.ops [⟨some 13, .fieldAddr 2 (.tmp 1), none⟩,
  ⟨some 14, .load false 1 (.tmp 13), none⟩,
  ⟨some 15, .bin .eql none (.tmp 14) (.const E), none⟩,
  ⟨some 2, .mov (.tmp 15), none⟩]) (
 .ret)) (
 .seq (.ops [⟨some 17, .bin .eql none (.tmp 10) (.const (I 2)), none⟩,
  ⟨some 16, .mov (.tmp 17), none⟩]) (
 .cond (.tmp 16) (.seq (.ops [⟨some 19, .fieldAddr 2 (.tmp 1), none⟩,
  ⟨some 20, .load false 1 (.tmp 19), none⟩,
  ⟨some 21, .call n_spec_ReadConf [(.tmp 20)], none⟩,
  ⟨some 18, .mov (.tmp 21), none⟩,
  ⟨some 22, .extract 0 (.tmp 18), none⟩,
  ⟨some 23, .extract 1 (.tmp 18), none⟩,
  ⟨some 3, .mov (.tmp 22), none⟩,
  ⟨some 4, .mov (.tmp 23), none⟩]) (
 .seq (.ops [⟨some 24, .mov (.tmp 4), none⟩,
  ⟨some 2, .mov (.tmp 24), none⟩]) (
 .ret))) (
 .seq (.ops [⟨some 26, .bin .eql none (.tmp 10) (.const (I 3)), none⟩,
  ⟨some 25, .mov (.tmp 26), none⟩]) (
 .cond (.tmp 25) (.seq (.ops [⟨some 27, .fieldAddr 2 (.tmp 1), none⟩,
  ⟨some 28, .load false 1 (.tmp 27), none⟩,
  ⟨some 29, .len true (.tmp 28), none⟩,
  ⟨some 30, .bin .leq none (.tmp 29) (.const (I 120)), none⟩,
  ⟨some 2, .mov (.tmp 30), none⟩]) (
 .ret)) (
 .skip))))))))) (
 .seq (.ops [⟨some 2, .mov (.const (.bool false)), none⟩]) (
 .ret)))),
 31, [.tmp 2]⟩

def g_spec_ConfOk : SFn := ⟨.seq (.ops [⟨some 2, .mov (.const (.bool false)), none⟩]) (
 .seq (.ops [⟨some 3, .mov (.tmp 0), none⟩,
  ⟨some 4, .len false (.tmp 3), none⟩,
  ⟨some 5, .call n_spec_l01In [(.tmp 4), (.const (I 1)), (.const (I 4))], none⟩,
  ⟨some 6, .mov (.tmp 5), none⟩,
  ⟨some 7, .mov (.tmp 0), some (6, true)⟩,
  ⟨some 8, .call n_spec_l05Rise [(.tmp 7), (.const (I 1)), (.const (I 4))], some (6, true)⟩,
  ⟨some 9, .pick (.tmp 6) (.tmp 8) (.const (.bool false)), none⟩,
  ⟨some 2, .mov (.tmp 9), none⟩]) (
 .ret)),
 10, [.tmp 2]⟩

def g_impl_within : SFn := ⟨.seq (.ops [⟨some 6, .mov (.const (.bool false)), none⟩]) (
 .seq (.ops [⟨some 7, .mov (.tmp 0), none⟩,
  ⟨some 8, .mov (.tmp 1), none⟩,
  ⟨some 9, .bin .geq none (.tmp 7) (.tmp 8), none⟩,
  ⟨some 10, .mov (.tmp 9), none⟩,
  ⟨some 11, .mov (.tmp 0), some (10, true)⟩,
  ⟨some 12, .mov (.tmp 2), some (10, true)⟩,
  ⟨some 13, .bin .leq none (.tmp 11) (.tmp 12), some (10, true)⟩,
  ⟨some 14, .pick (.tmp 10) (.tmp 13) (.const (.bool false)), none⟩,
  ⟨some 6, .mov (.tmp 14), none⟩]) (
 .ret)),
 15, [.tmp 6]⟩

def g_impl_isNode : SFn := ⟨.seq (.ops [⟨some 2, .mov (.const (.bool false)), none⟩]) (
 .seq (.ops [⟨some 3, .mov (.tmp 0), none⟩,
  ⟨some 4, .call n_impl_within [(.tmp 3), (.const (I 1)), (.const (I 4))], none⟩,
  ⟨some 2, .mov (.tmp 4), none⟩]) (
 .ret)),
 5, [.tmp 2]⟩

def g_impl_isTerm : SFn := ⟨.seq (.ops [⟨some 2, .mov (.const (.bool false)), none⟩]) (
 .seq (.ops [⟨some 3, .mov (.tmp 0), none⟩,
  ⟨some 4, .call n_impl_within [(.tmp 3), (.const (I 0)), (.const (I 100000))], none⟩,
  ⟨some 2, .mov (.tmp 4), none⟩]) (
 .ret)),
 5, [.tmp 2]⟩

def g_impl_EntryOk : SFn := ⟨.seq (.ops [⟨some 1, .box (.tmp 0), none⟩,
  ⟨some 2, .mov (.const (.bool false)), none⟩]) (
 .seq (.seq (.ops [⟨some 5, .fieldAddr 1 (.tmp 1), none⟩,
  ⟨some 6, .load false 1 (.tmp 5), none⟩]) (
 .block 0 (.seq (.ops [⟨some 8, .bin .eql none (.tmp 6) (.const (I 1)), none⟩,
  ⟨some 7, .mov (.tmp 8), none⟩]) (
 .cond (.tmp 7) (.seq (.ops [⟨some 9, .fieldAddr 0 (.tmp 1), none⟩,
  ⟨some 10, .load false 1 (.tmp 9), none⟩,
  ⟨some 11, .call n_impl_isTerm [(.tmp 10)], none⟩,
  ⟨some 12, .mov (.tmp 11), none⟩,
  ⟨some 13, .fieldAddr 2 (.tmp 1), some (12, true)⟩,
  ⟨some 14, .load false 1 (.tmp 13), some (12, true)⟩,
  ⟨some 15, .bin .eql none (.tmp 14) (.const E), some (12, true)⟩,
  ⟨some 16, .pick (.tmp 12) (.tmp 15) (.const (.bool false)), none⟩,
  ⟨some 2, .mov (.tmp 16), none⟩]) (
 .ret)) (
 .seq (.ops [⟨some 18, .bin .eql none (.tmp 6) (.const (I 2)), none⟩,
  ⟨some 17, .mov (.tmp 18), none⟩]) (
 .cond (.tmp 17) (.seq (.ops [⟨some 20, .fieldAddr 2 (.tmp 1), none⟩,
  ⟨some 21, .load false 1 (.tmp 20), none⟩,
  ⟨some 22, .call n_impl_ReadConf [(.tmp 21)], none⟩,
  ⟨some 19, .mov (.tmp 22), none⟩,
  ⟨some 23, .extract 0 (.tmp 19), none⟩,
  ⟨some 24, .extract 1 (.tmp 19), none⟩,
  ⟨some 3, .mov (.tmp 23), none⟩,
  ⟨some 4, .mov (.tmp 24), none⟩]) (
 .seq (.ops [⟨some 25, .fieldAddr 0 (.tmp 1), none⟩,
  ⟨some 26, .load false 1 (.tmp 25), none⟩,
  ⟨some 27, .call n_impl_isTerm [(.tmp 26)], none⟩,
  ⟨some 28, .mov (.tmp 27), none⟩,
  ⟨some 29, .mov (.tmp 4), some (28, true)⟩,
  ⟨some 30, .pick (.tmp 28) (.tmp 29) (.const (.bool false)), none⟩,
  ⟨some 2, .mov (.tmp 30), none⟩]) (
 .ret))) (
 .skip))))))) (
 .seq (.ops [⟨some 31, .fieldAddr 1 (.tmp 1), none⟩,
  ⟨some 32, .load false 1 (.tmp 31), none⟩,
  ⟨some 33, .bin .eql none (.tmp 32) (.const (I 3)), none⟩,
  ⟨some 34, .mov (.tmp 33), none⟩,
  ⟨some 35, .fieldAddr 0 (.tmp 1), some (34, true)⟩,
  ⟨some 36, .load false 1 (.tmp 35), some (34, true)⟩,
  ⟨some 37, .call n_impl_isTerm [(.tmp 36)], some (34, true)⟩,
  ⟨some 38, .pick (.tmp 34) (.tmp 37) (.const (.bool false)), none⟩,
  ⟨some 39, .mov (.tmp 38), none⟩,
  ⟨some 40, .fieldAddr 2 (.tmp 1), some (39, true)⟩,
  ⟨some 41, .load false 1 (.tmp 40), some (39, true)⟩,
  ⟨some 42, .len true (.tmp 41), some (39, true)⟩,
  ⟨some 43, .bin .leq none (.tmp 42) (.const (I 120)), some (39, true)⟩,
  ⟨some 44, .pick (.tmp 39) (.tmp 43) (.const (.bool false)), none⟩,
  ⟨some 2, .mov (.tmp 44), none⟩]) (
 .ret))),
 45, [.tmp 2]⟩

def g_impl_ConfOk : SFn := ⟨.seq (.ops [⟨some 2, .mov (.const (.bool false)), none⟩]) (
 .seq (.ops [⟨some 3, .mov (.tmp 0), none⟩,
  ⟨some 4, .len false (.tmp 3), none⟩,
  ⟨some 5, .bin .gtr none (.tmp 4) (.const (I 0)), none⟩,
  ⟨some 6, .mov (.tmp 5), none⟩,
  ⟨some 7, .mov (.tmp 0), some (6, true)⟩,
  ⟨some 8, .call n_impl_nodesOk [(.tmp 7)], some (6, true)⟩,
  ⟨some 9, .pick (.tmp 6) (.tmp 8) (.const (.bool false)), none⟩,
  ⟨some 2, .mov (.tmp 9), none⟩]) (
 .ret)),
 10, [.tmp 2]⟩

def g_impl_isIndex : SFn := ⟨.seq (.ops [⟨some 2, .mov (.const (.bool false)), none⟩]) (
 .seq (.ops [⟨some 3, .mov (.tmp 0), none⟩,
  ⟨some 4, .call n_impl_within [(.tmp 3), (.const (I 0)), (.const (I 1000000))], none⟩,
  ⟨some 2, .mov (.tmp 4), none⟩]) (
 .ret)),
 5, [.tmp 2]⟩

def g_laws_sameInts_L0 : SC := .seq (.seq (.ops [⟨some 11, .mov (.tmp 5), none⟩,
  ⟨some 12, .mov (.tmp 0), none⟩,
  ⟨some 13, .len false (.tmp 12), none⟩,
  ⟨some 14, .bin .lss none (.tmp 11) (.tmp 13), none⟩]) (
 .cond (.tmp 14) (.skip) (
 .exit 0))) (
 .seq (.block 1 (.seq (.draw [(⟨some 17, .mov (.tmp 0), none⟩, none),
  (⟨some 18, .mov (.tmp 5), none⟩, none),
  (⟨some 19, .idxAddr 1 (.tmp 17) (.tmp 18), none⟩, none),
  (⟨some 20, .load false 1 (.tmp 19), none⟩, some (3, [], [])),
  (⟨some 21, .mov (.tmp 1), none⟩, none),
  (⟨some 22, .mov (.tmp 5), none⟩, none),
  (⟨some 23, .idxAddr 1 (.tmp 21) (.tmp 22), none⟩, none),
  (⟨some 24, .load false 1 (.tmp 23), none⟩, some (7, [], [3])),
  (⟨some 25, .bin .neq none (.tmp 20) (.tmp 24), none⟩, none)]) (
 .cond (.tmp 25) (.seq (.ops [⟨some 4, .mov (.const (.bool false)), none⟩]) (
 .ret)) (
 .skip)))) (
 .ops [⟨some 15, .mov (.tmp 5), none⟩,
  ⟨some 16, .bin .add none (.tmp 15) (.const (I 1)), none⟩,
  ⟨some 5, .mov (.tmp 16), none⟩]))

def g_laws_sameInts : SFn := ⟨.seq (.ops [⟨some 4, .mov (.const (.bool false)), none⟩]) (
 .seq (.seq (.ops [⟨some 6, .mov (.tmp 0), none⟩,
  ⟨some 7, .len false (.tmp 6), none⟩,
  ⟨some 8, .mov (.tmp 1), none⟩,
  ⟨some 9, .len false (.tmp 8), none⟩,
  ⟨some 10, .bin .neq none (.tmp 7) (.tmp 9), none⟩]) (
 .cond (.tmp 10) (.seq (.ops [⟨some 4, .mov (.const (.bool false)), none⟩]) (
 .ret)) (
 .skip))) (
 .seq (.seq (.ops [⟨some 5, .mov (.const (I 0)), none⟩]) (
 .block 0 (.loop g_laws_sameInts_L0))) (
 .seq (.ops [⟨some 4, .mov (.const (.bool true)), none⟩]) (
 .ret)))),
 26, [.tmp 4]⟩

def g_spec_l02Spoilt : SFn := ⟨.seq (.ops [⟨some 4, .mov (.const E), none⟩]) (
 .seq (.seq (.ops [⟨some 6, .mov (.tmp 0), none⟩,
  ⟨some 7, .call n_spec_l01Below [(.tmp 6), (.const (I 12))], none⟩]) (
 .block 0 (.seq (.ops [⟨some 9, .bin .eql none (.tmp 7) (.const (I 0)), none⟩,
  ⟨some 8, .mov (.tmp 9), none⟩]) (
 .cond (.tmp 8) (.seq (.ops [⟨some 10, .mov (.tmp 1), none⟩,
  ⟨some 11, .mov (.tmp 0), none⟩,
  ⟨some 12, .call n_spec_l01Text [(.tmp 11), (.const (I 1))], none⟩,
  ⟨some 13, .bin .add none (.tmp 10) (.tmp 12), none⟩,
  ⟨some 4, .mov (.tmp 13), none⟩]) (
 .ret)) (
 .seq (.ops [⟨some 15, .bin .eql none (.tmp 7) (.const (I 1)), none⟩,
  ⟨some 14, .mov (.tmp 15), none⟩]) (
 .cond (.tmp 14) (.seq (.ops [⟨some 16, .mov (.tmp 1), none⟩,
  ⟨some 17, .mov (.tmp 0), none⟩,
  ⟨some 18, .mov (.tmp 1), none⟩,
  ⟨some 19, .len true (.tmp 18), none⟩,
  ⟨some 20, .bin .add none (.tmp 19) (.const (I 1)), none⟩,
  ⟨some 21, .call n_spec_l01Below [(.tmp 17), (.tmp 20)], none⟩,
  ⟨some 22, .sliceS (.tmp 16) none (some (.tmp 21)), none⟩,
  ⟨some 4, .mov (.tmp 22), none⟩]) (
 .ret)) (
 .seq (.seq (.ops [⟨some 24, .bin .eql none (.tmp 7) (.const (I 2)), none⟩,
  ⟨some 23, .mov (.tmp 24), none⟩]) (
 .cond (.tmp 23) (.skip) (
 .ops [⟨some 25, .bin .eql none (.tmp 7) (.const (I 3)), none⟩,
  ⟨some 23, .mov (.tmp 25), none⟩]))) (
 .cond (.tmp 23) (.seq (.ops [⟨some 26, .mov (.tmp 1), none⟩,
  ⟨some 27, .len true (.tmp 26), none⟩,
  ⟨some 28, .bin .gtr none (.tmp 27) (.const (I 0)), none⟩]) (
 .cond (.tmp 28) (.seq (.ops [⟨some 29, .mov (.tmp 0), none⟩,
  ⟨some 30, .mov (.tmp 1), none⟩,
  ⟨some 31, .len true (.tmp 30), none⟩,
  ⟨some 32, .call n_spec_l01Below [(.tmp 29), (.tmp 31)], none⟩,
  ⟨some 5, .mov (.tmp 32), none⟩]) (
 .seq (.draw [(⟨some 33, .mov (.tmp 1), none⟩, none),
  (⟨some 34, .mov (.tmp 5), none⟩, none),
  (⟨some 35, .sliceS (.tmp 33) none (some (.tmp 34)), none⟩, none),
  (⟨some 36, .mov (.tmp 0), none⟩, none),
  (⟨some 37, .call n_spec_l01Text [(.tmp 36), (.const (I 1))], none⟩, some (4, [], [])),
  (⟨some 38, .bin .add none (.tmp 35) (.tmp 37), none⟩, none),
  (⟨some 39, .mov (.tmp 1), none⟩, none),
  (⟨some 40, .mov (.tmp 5), none⟩, none),
  (⟨some 41, .bin .add none (.tmp 40) (.const (I 1)), none⟩, none),
  (⟨some 42, .sliceS (.tmp 39) (some (.tmp 41)) none, none⟩, none),
  (⟨some 43, .bin .add none (.tmp 38) (.tmp 42), none⟩, none),
  (⟨some 4, .mov (.tmp 43), none⟩, none)]) (
 .ret))) (
 .skip))) (
 .skip))))))))) (
 .seq (.ops [⟨some 44, .mov (.tmp 1), none⟩,
  ⟨some 4, .mov (.tmp 44), none⟩]) (
 .ret))),
 45, [.tmp 4]⟩

def g_impl_ReadConf_L0 : SC := .seq (.seq (.ops [⟨some 7, .mov (.tmp 5), none⟩,
  ⟨some 8, .mov (.tmp 0), none⟩,
  ⟨some 9, .len true (.tmp 8), none⟩,
  ⟨some 10, .bin .lss none (.tmp 7) (.tmp 9), none⟩]) (
 .cond (.tmp 10) (.skip) (
 .exit 0))) (
 .seq (.block 1 (.ops [⟨some 13, .mov (.tmp 4), none⟩,
  ⟨some 14, .mov (.tmp 0), none⟩,
  ⟨some 15, .mov (.tmp 5), none⟩,
  ⟨some 16, .idxStr (.tmp 14) (.tmp 15), none⟩,
  ⟨some 17, .convInt .i64 (.tmp 16), none⟩,
  ⟨some 18, .arr 1 [(I 0)] 1 [(0, 1, (.tmp 17))], none⟩,
  ⟨some 19, .append 1 8 [(I 0)] (.tmp 13) (.tmp 18), none⟩,
  ⟨some 4, .mov (.tmp 19), none⟩])) (
 .ops [⟨some 11, .mov (.tmp 5), none⟩,
  ⟨some 12, .bin .add none (.tmp 11) (.const (I 1)), none⟩,
  ⟨some 5, .mov (.tmp 12), none⟩]))

def g_impl_ReadConf : SFn := ⟨.seq (.ops [⟨some 2, .mov (.const (.slice none 0 0)), none⟩,
  ⟨some 3, .mov (.const (.bool false)), none⟩]) (
 .seq (.ops [⟨some 6, .arr 1 [(I 0)] 0 [], none⟩,
  ⟨some 4, .mov (.tmp 6), none⟩]) (
 .seq (.seq (.ops [⟨some 5, .mov (.const (I 0)), none⟩]) (
 .block 0 (.loop g_impl_ReadConf_L0))) (
 .seq (.seq (.ops [⟨some 20, .mov (.tmp 4), none⟩,
  ⟨some 21, .call n_impl_ConfOk [(.tmp 20)], none⟩,
  ⟨some 22, .un .not (.tmp 21), none⟩]) (
 .cond (.tmp 22) (.seq (.ops [⟨some 2, .mov (.const (.slice none 0 0)), none⟩,
  ⟨some 3, .mov (.const (.bool false)), none⟩]) (
 .ret)) (
 .skip))) (
 .seq (.ops [⟨some 23, .mov (.tmp 4), none⟩,
  ⟨some 2, .mov (.tmp 23), none⟩,
  ⟨some 3, .mov (.const (.bool true)), none⟩]) (
 .ret))))),
 24, [.tmp 2, .tmp 3]⟩

def g_spec_ReadVar_L0 : SC := .seq (.seq (.ops [⟨some 16, .mov (.tmp 9), none⟩,
  ⟨some 17, .mov (.tmp 0), none⟩,
  ⟨some 18, .len true (.tmp 17), none⟩,
  ⟨some 19, .bin .lss none (.tmp 16) (.tmp 18), none⟩,
  ⟨some 20, .mov (.tmp 19), none⟩,
  ⟨some 21, .mov (.tmp 9), some (20, true)⟩,
  ⟨some 22, .mov (.tmp 1), some (20, true)⟩,
  ⟨some 23, .bin .add none (.tmp 22) (.const (I 5)), some (20, true)⟩,
  ⟨some 24, .bin .lss none (.tmp 21) (.tmp 23), some (20, true)⟩,
  ⟨some 25, .pick (.tmp 20) (.tmp 24) (.const (.bool false)), none⟩]) (
 .cond (.tmp 25) (.skip) (
 .exit 0))) (
 .seq (.block 1 (.seq (.ops [⟨some 28, .mov (.tmp 7), none⟩,
  ⟨some 29, .mov (.tmp 0), none⟩,
  ⟨some 30, .mov (.tmp 9), none⟩,
  ⟨some 31, .idxStr (.tmp 29) (.tmp 30), none⟩,
  ⟨some 32, .convInt .i64 (.tmp 31), none⟩,
  ⟨some 33, .bin .rem none (.tmp 32) (.const (I 128)), none⟩,
  ⟨some 34, .mov (.tmp 8), none⟩,
  ⟨some 35, .bin .mul none (.tmp 33) (.tmp 34), none⟩,
  ⟨some 36, .bin .add none (.tmp 28) (.tmp 35), none⟩,
  ⟨some 7, .mov (.tmp 36), none⟩]) (
 .seq (.ops [⟨some 37, .mov (.tmp 8), none⟩,
  ⟨some 38, .bin .mul none (.tmp 37) (.const (I 128)), none⟩,
  ⟨some 8, .mov (.tmp 38), none⟩]) (
 .seq (.ops [⟨some 39, .mov (.tmp 0), none⟩,
  ⟨some 40, .mov (.tmp 9), none⟩,
  ⟨some 41, .idxStr (.tmp 39) (.tmp 40), none⟩,
  ⟨some 42, .bin .lss none (.tmp 41) (.const (.int .u8 128)), none⟩]) (
 .cond (.tmp 42) (.seq (.seq (.draw [(⟨some 43, .mov (.tmp 7), none⟩, none),
  (⟨some 44, .bin .gtr none (.tmp 43) (.const (I 1000000000)), none⟩, none),
  (⟨some 45, .mov (.tmp 44), none⟩, none),
  (⟨some 46, .mov (.tmp 7), some (45, false)⟩, none),
  (⟨some 47, .call n_spec_l01Var [(.tmp 46)], some (45, false)⟩, some (4, [], [])),
  (⟨some 48, .mov (.tmp 0), some (45, false)⟩, none),
  (⟨some 49, .mov (.tmp 1), some (45, false)⟩, none),
  (⟨some 50, .mov (.tmp 9), some (45, false)⟩, none),
  (⟨some 51, .bin .add none (.tmp 50) (.const (I 1)), some (45, false)⟩, none),
  (⟨some 52, .sliceS (.tmp 48) (some (.tmp 49)) (some (.tmp 51)), some (45, false)⟩, none),
  (⟨some 53, .bin .neq none (.tmp 47) (.tmp 52), some (45, false)⟩, none),
  (⟨some 54, .pick (.tmp 45) (.const (.bool true)) (.tmp 53), none⟩, none)]) (
 .cond (.tmp 54) (.seq (.ops [⟨some 4, .mov (.const (I 0)), none⟩,
  ⟨some 5, .mov (.const (I 0)), none⟩,
  ⟨some 6, .mov (.const (.bool false)), none⟩]) (
 .ret)) (
 .skip))) (
 .seq (.ops [⟨some 55, .mov (.tmp 7), none⟩,
  ⟨some 56, .mov (.tmp 9), none⟩,
  ⟨some 57, .bin .add none (.tmp 56) (.const (I 1)), none⟩,
  ⟨some 4, .mov (.tmp 55), none⟩,
  ⟨some 5, .mov (.tmp 57), none⟩,
  ⟨some 6, .mov (.const (.bool true)), none⟩]) (
 .ret))) (
 .skip)))))) (
 .ops [⟨some 26, .mov (.tmp 9), none⟩,
  ⟨some 27, .bin .add none (.tmp 26) (.const (I 1)), none⟩,
  ⟨some 9, .mov (.tmp 27), none⟩]))

def g_spec_ReadVar : SFn := ⟨.seq (.ops [⟨some 4, .mov (.const (I 0)), none⟩,
  ⟨some 5, .mov (.const (I 0)), none⟩,
  ⟨some 6, .mov (.const (.bool false)), none⟩]) (
 .seq (.seq (.ops [⟨some 10, .mov (.tmp 1), none⟩,
  ⟨some 11, .mov (.tmp 0), none⟩,
  ⟨some 12, .len true (.tmp 11), none⟩,
  ⟨some 13, .call n_spec_l01In [(.tmp 10), (.const (I 0)), (.tmp 12)], none⟩,
  ⟨some 14, .un .not (.tmp 13), none⟩]) (
 .cond (.tmp 14) (.seq (.ops [⟨some 4, .mov (.const (I 0)), none⟩,
  ⟨some 5, .mov (.const (I 0)), none⟩,
  ⟨some 6, .mov (.const (.bool false)), none⟩]) (
 .ret)) (
 .skip))) (
 .seq (.ops [⟨some 7, .mov (.const (I 0)), none⟩]) (
 .seq (.ops [⟨some 8, .mov (.const (I 1)), none⟩]) (
 .seq (.seq (.ops [⟨some 15, .mov (.tmp 1), none⟩,
  ⟨some 9, .mov (.tmp 15), none⟩]) (
 .block 0 (.loop g_spec_ReadVar_L0))) (
 .seq (.ops [⟨some 4, .mov (.const (I 0)), none⟩,
  ⟨some 5, .mov (.const (I 0)), none⟩,
  ⟨some 6, .mov (.const (.bool false)), none⟩]) (
 .ret)))))),
 58, [.tmp 4, .tmp 5, .tmp 6]⟩

def g_spec_EntryText : SFn := ⟨.seq (.ops [⟨some 3, .box (.tmp 1), none⟩,
  ⟨some 4, .mov (.const E), none⟩,
  ⟨some 5, .mov (.const (.bool false)), none⟩]) (
 .seq (.seq (.ops [⟨some 6, .load true 3 (.tmp 3), none⟩,
  ⟨some 7, .call n_spec_EntryOk [(.tmp 6)], none⟩,
  ⟨some 8, .un .not (.tmp 7), none⟩,
  ⟨some 9, .mov (.tmp 8), none⟩,
  ⟨some 10, .mov (.tmp 0), some (9, false)⟩,
  ⟨some 11, .call n_spec_l01In [(.tmp 10), (.const (I 1)), (.const (I 1000000))], some (9, false)⟩,
  ⟨some 12, .un .not (.tmp 11), some (9, false)⟩,
  ⟨some 13, .pick (.tmp 9) (.const (.bool true)) (.tmp 12), none⟩]) (
 .cond (.tmp 13) (.seq (.ops [⟨some 4, .mov (.const E), none⟩,
  ⟨some 5, .mov (.const (.bool false)), none⟩]) (
 .ret)) (
 .skip))) (
 .seq (.draw [(⟨some 14, .mov (.tmp 0), none⟩, none),
  (⟨some 15, .call n_spec_l01Var [(.tmp 14)], none⟩, some (1, [], [])),
  (⟨some 16, .bin .add none (.const (T [69])) (.tmp 15), none⟩, none),
  (⟨some 17, .fieldAddr 0 (.tmp 3), none⟩, none),
  (⟨some 18, .load false 1 (.tmp 17), none⟩, some (4, [], [1])),
  (⟨some 19, .call n_spec_l01Var [(.tmp 18)], none⟩, some (5, [4, 1], [])),
  (⟨some 20, .bin .add none (.tmp 16) (.tmp 19), none⟩, none),
  (⟨some 21, .fieldAddr 1 (.tmp 3), none⟩, none),
  (⟨some 22, .load false 1 (.tmp 21), none⟩, some (8, [], [5, 4, 1])),
  (⟨some 23, .convInt .u8 (.tmp 22), none⟩, none),
  (⟨some 24, .arr 1 [(.int .u8 0)] 1 [(0, 1, (.tmp 23))], none⟩, some (10, [8], [5, 4, 1])),
  (⟨some 25, .convB2S (.tmp 24), none⟩, some (11, [10, 8], [5, 4, 1])),
  (⟨some 26, .bin .add none (.tmp 20) (.tmp 25), none⟩, none),
  (⟨some 27, .fieldAddr 2 (.tmp 3), none⟩, none),
  (⟨some 28, .load false 1 (.tmp 27), none⟩, some (14, [], [11, 10, 8, 5, 4, 1])),
  (⟨some 29, .bin .add none (.tmp 26) (.tmp 28), none⟩, none),
  (⟨some 4, .mov (.tmp 29), none⟩, none),
  (⟨some 5, .mov (.const (.bool true)), none⟩, none)]) (
 .ret))),
 30, [.tmp 4, .tmp 5]⟩

def g_spec_l01Var_L0 : SC := .seq (.seq (.ops [⟨some 5, .mov (.tmp 0), none⟩,
  ⟨some 6, .bin .gtr none (.tmp 5) (.const (I 127)), none⟩]) (
 .cond (.tmp 6) (.skip) (
 .exit 0))) (
 .block 1 (.seq (.ops [⟨some 7, .mov (.tmp 3), none⟩,
  ⟨some 8, .mov (.tmp 0), none⟩,
  ⟨some 9, .bin .rem none (.tmp 8) (.const (I 128)), none⟩,
  ⟨some 10, .bin .add none (.tmp 9) (.const (I 128)), none⟩,
  ⟨some 11, .convInt .u8 (.tmp 10), none⟩,
  ⟨some 12, .arr 1 [(.int .u8 0)] 1 [(0, 1, (.tmp 11))], none⟩,
  ⟨some 13, .append 1 1 [(.int .u8 0)] (.tmp 7) (.tmp 12), none⟩,
  ⟨some 3, .mov (.tmp 13), none⟩]) (
 .ops [⟨some 14, .mov (.tmp 0), none⟩,
  ⟨some 15, .bin .quo none (.tmp 14) (.const (I 128)), none⟩,
  ⟨some 0, .mov (.tmp 15), none⟩])))

def g_spec_l01Var : SFn := ⟨.seq (.ops [⟨some 2, .mov (.const E), none⟩]) (
 .seq (.ops [⟨some 4, .arr 1 [(.int .u8 0)] 0 [], none⟩,
  ⟨some 3, .mov (.tmp 4), none⟩]) (
 .seq (.block 0 (.loop g_spec_l01Var_L0)) (
 .seq (.ops [⟨some 16, .mov (.tmp 3), none⟩,
  ⟨some 17, .mov (.tmp 0), none⟩,
  ⟨some 18, .convInt .u8 (.tmp 17), none⟩,
  ⟨some 19, .arr 1 [(.int .u8 0)] 1 [(0, 1, (.tmp 18))], none⟩,
  ⟨some 20, .append 1 1 [(.int .u8 0)] (.tmp 16) (.tmp 19), none⟩,
  ⟨some 21, .convB2S (.tmp 20), none⟩,
  ⟨some 2, .mov (.tmp 21), none⟩]) (
 .ret)))),
 22, [.tmp 2]⟩

def g_spec_l17Flag : SFn := ⟨.seq (.ops [⟨some 2, .mov (.const E), none⟩]) (
 .seq (.seq (.ops [⟨some 3, .mov (.tmp 0), none⟩]) (
 .cond (.tmp 3) (.seq (.ops [⟨some 2, .mov (.const (T [1])), none⟩]) (
 .ret)) (
 .skip))) (
 .seq (.ops [⟨some 2, .mov (.const (T [0])), none⟩]) (
 .ret))),
 4, [.tmp 2]⟩

def g_spec_l05Short : SFn := ⟨.seq (.ops [⟨some 2, .mov (.const E), none⟩]) (
 .seq (.ops [⟨some 3, .mov (.tmp 0), none⟩,
  ⟨some 4, .len true (.tmp 3), none⟩,
  ⟨some 5, .call n_spec_l01Var [(.tmp 4)], none⟩,
  ⟨some 6, .mov (.tmp 0), none⟩,
  ⟨some 7, .bin .add none (.tmp 5) (.tmp 6), none⟩,
  ⟨some 2, .mov (.tmp 7), none⟩]) (
 .ret)),
 8, [.tmp 2]⟩

def g_spec_ConfText_L0 : SC := .seq (.seq (.ops [⟨some 10, .mov (.tmp 5), none⟩,
  ⟨some 11, .mov (.tmp 0), none⟩,
  ⟨some 12, .len false (.tmp 11), none⟩,
  ⟨some 13, .bin .lss none (.tmp 10) (.tmp 12), none⟩]) (
 .cond (.tmp 13) (.skip) (
 .exit 0))) (
 .seq (.block 1 (.ops [⟨some 16, .mov (.tmp 4), none⟩,
  ⟨some 17, .mov (.tmp 0), none⟩,
  ⟨some 18, .mov (.tmp 5), none⟩,
  ⟨some 19, .idxAddr 1 (.tmp 17) (.tmp 18), none⟩,
  ⟨some 20, .load false 1 (.tmp 19), none⟩,
  ⟨some 21, .convInt .u8 (.tmp 20), none⟩,
  ⟨some 22, .arr 1 [(.int .u8 0)] 1 [(0, 1, (.tmp 21))], none⟩,
  ⟨some 23, .append 1 1 [(.int .u8 0)] (.tmp 16) (.tmp 22), none⟩,
  ⟨some 4, .mov (.tmp 23), none⟩])) (
 .ops [⟨some 14, .mov (.tmp 5), none⟩,
  ⟨some 15, .bin .add none (.tmp 14) (.const (I 1)), none⟩,
  ⟨some 5, .mov (.tmp 15), none⟩]))

def g_spec_ConfText : SFn := ⟨.seq (.ops [⟨some 2, .mov (.const E), none⟩,
  ⟨some 3, .mov (.const (.bool false)), none⟩]) (
 .seq (.seq (.ops [⟨some 6, .mov (.tmp 0), none⟩,
  ⟨some 7, .call n_spec_ConfOk [(.tmp 6)], none⟩,
  ⟨some 8, .un .not (.tmp 7), none⟩]) (
 .cond (.tmp 8) (.seq (.ops [⟨some 2, .mov (.const E), none⟩,
  ⟨some 3, .mov (.const (.bool false)), none⟩]) (
 .ret)) (
 .skip))) (
 .seq (.ops [⟨some 9, .arr 1 [(.int .u8 0)] 0 [], none⟩,
  ⟨some 4, .mov (.tmp 9), none⟩]) (
 .seq (.seq (.ops [⟨some 5, .mov (.const (I 0)), none⟩]) (
 .block 0 (.loop g_spec_ConfText_L0))) (
 .seq (.ops [⟨some 24, .mov (.tmp 4), none⟩,
  ⟨some 25, .convB2S (.tmp 24), none⟩,
  ⟨some 2, .mov (.tmp 25), none⟩,
  ⟨some 3, .mov (.const (.bool true)), none⟩]) (
 .ret))))),
 26, [.tmp 2, .tmp 3]⟩

def g_impl_ReadVar_L0 : SC := .seq (.seq (.ops [⟨some 15, .mov (.tmp 8), none⟩,
  ⟨some 16, .bin .lss none (.tmp 15) (.const (I 5)), none⟩,
  ⟨some 17, .mov (.tmp 16), none⟩,
  ⟨some 18, .mov (.tmp 1), some (17, true)⟩,
  ⟨some 19, .mov (.tmp 8), some (17, true)⟩,
  ⟨some 20, .bin .add none (.tmp 18) (.tmp 19), some (17, true)⟩,
  ⟨some 21, .mov (.tmp 0), some (17, true)⟩,
  ⟨some 22, .len true (.tmp 21), some (17, true)⟩,
  ⟨some 23, .bin .lss none (.tmp 20) (.tmp 22), some (17, true)⟩,
  ⟨some 24, .pick (.tmp 17) (.tmp 23) (.const (.bool false)), none⟩]) (
 .cond (.tmp 24) (.skip) (
 .exit 0))) (
 .seq (.block 1 (.seq (.ops [⟨some 27, .mov (.tmp 0), none⟩,
  ⟨some 28, .mov (.tmp 1), none⟩,
  ⟨some 29, .mov (.tmp 8), none⟩,
  ⟨some 30, .bin .add none (.tmp 28) (.tmp 29), none⟩,
  ⟨some 31, .idxStr (.tmp 27) (.tmp 30), none⟩,
  ⟨some 32, .convInt .i64 (.tmp 31), none⟩,
  ⟨some 9, .mov (.tmp 32), none⟩]) (
 .seq (.ops [⟨some 33, .mov (.tmp 7), none⟩,
  ⟨some 34, .mov (.tmp 9), none⟩,
  ⟨some 35, .bin .rem none (.tmp 34) (.const (I 128)), none⟩,
  ⟨some 36, .mov (.tmp 8), none⟩,
  ⟨some 37, .bin .mul none (.const (I 7)) (.tmp 36), none⟩,
  ⟨some 38, .bin .shl none (.tmp 35) (.tmp 37), none⟩,
  ⟨some 39, .bin .add none (.tmp 33) (.tmp 38), none⟩,
  ⟨some 7, .mov (.tmp 39), none⟩]) (
 .seq (.seq (.ops [⟨some 40, .mov (.tmp 9), none⟩,
  ⟨some 41, .bin .gtr none (.tmp 40) (.const (I 127)), none⟩]) (
 .cond (.tmp 41) (.exit 1) (
 .skip))) (
 .seq (.seq (.ops [⟨some 42, .mov (.tmp 8), none⟩,
  ⟨some 43, .bin .gtr none (.tmp 42) (.const (I 0)), none⟩,
  ⟨some 44, .mov (.tmp 43), none⟩,
  ⟨some 45, .mov (.tmp 9), some (44, true)⟩,
  ⟨some 46, .bin .eql none (.tmp 45) (.const (I 0)), some (44, true)⟩,
  ⟨some 47, .pick (.tmp 44) (.tmp 46) (.const (.bool false)), none⟩,
  ⟨some 48, .mov (.tmp 47), none⟩,
  ⟨some 49, .mov (.tmp 7), some (48, false)⟩,
  ⟨some 50, .bin .gtr none (.tmp 49) (.const (I 1000000000)), some (48, false)⟩,
  ⟨some 51, .pick (.tmp 48) (.const (.bool true)) (.tmp 50), none⟩]) (
 .cond (.tmp 51) (.seq (.ops [⟨some 4, .mov (.const (I 0)), none⟩,
  ⟨some 5, .mov (.const (I 0)), none⟩,
  ⟨some 6, .mov (.const (.bool false)), none⟩]) (
 .ret)) (
 .skip))) (
 .seq (.ops [⟨some 52, .mov (.tmp 7), none⟩,
  ⟨some 53, .mov (.tmp 1), none⟩,
  ⟨some 54, .mov (.tmp 8), none⟩,
  ⟨some 55, .bin .add none (.tmp 53) (.tmp 54), none⟩,
  ⟨some 56, .bin .add none (.tmp 55) (.const (I 1)), none⟩,
  ⟨some 4, .mov (.tmp 52), none⟩,
  ⟨some 5, .mov (.tmp 56), none⟩,
  ⟨some 6, .mov (.const (.bool true)), none⟩]) (
 .ret))))))) (
 .ops [⟨some 25, .mov (.tmp 8), none⟩,
  ⟨some 26, .bin .add none (.tmp 25) (.const (I 1)), none⟩,
  ⟨some 8, .mov (.tmp 26), none⟩]))

def g_impl_ReadVar : SFn := ⟨.seq (.ops [⟨some 4, .mov (.const (I 0)), none⟩,
  ⟨some 5, .mov (.const (I 0)), none⟩,
  ⟨some 6, .mov (.const (.bool false)), none⟩]) (
 .seq (.seq (.ops [⟨some 10, .mov (.tmp 1), none⟩,
  ⟨some 11, .mov (.tmp 0), none⟩,
  ⟨some 12, .len true (.tmp 11), none⟩,
  ⟨some 13, .call n_impl_within [(.tmp 10), (.const (I 0)), (.tmp 12)], none⟩,
  ⟨some 14, .un .not (.tmp 13), none⟩]) (
 .cond (.tmp 14) (.seq (.ops [⟨some 4, .mov (.const (I 0)), none⟩,
  ⟨some 5, .mov (.const (I 0)), none⟩,
  ⟨some 6, .mov (.const (.bool false)), none⟩]) (
 .ret)) (
 .skip))) (
 .seq (.ops [⟨some 7, .mov (.const (I 0)), none⟩]) (
 .seq (.seq (.ops [⟨some 8, .mov (.const (I 0)), none⟩]) (
 .block 0 (.loop g_impl_ReadVar_L0))) (
 .seq (.ops [⟨some 4, .mov (.const (I 0)), none⟩,
  ⟨some 5, .mov (.const (I 0)), none⟩,
  ⟨some 6, .mov (.const (.bool false)), none⟩]) (
 .ret))))),
 57, [.tmp 4, .tmp 5, .tmp 6]⟩

def g_impl_ReadShort : SFn := ⟨.seq (.ops [⟨some 4, .mov (.const E), none⟩,
  ⟨some 5, .mov (.const (I 0)), none⟩,
  ⟨some 6, .mov (.const (.bool false)), none⟩]) (
 .seq (.ops [⟨some 11, .mov (.tmp 0), none⟩,
  ⟨some 12, .mov (.tmp 1), none⟩,
  ⟨some 13, .call n_impl_ReadVar [(.tmp 11), (.tmp 12)], none⟩,
  ⟨some 10, .mov (.tmp 13), none⟩,
  ⟨some 14, .extract 0 (.tmp 10), none⟩,
  ⟨some 15, .extract 1 (.tmp 10), none⟩,
  ⟨some 16, .extract 2 (.tmp 10), none⟩,
  ⟨some 7, .mov (.tmp 14), none⟩,
  ⟨some 8, .mov (.tmp 15), none⟩,
  ⟨some 9, .mov (.tmp 16), none⟩]) (
 .seq (.seq (.ops [⟨some 17, .mov (.tmp 9), none⟩,
  ⟨some 18, .un .not (.tmp 17), none⟩,
  ⟨some 19, .mov (.tmp 18), none⟩,
  ⟨some 20, .mov (.tmp 7), some (19, false)⟩,
  ⟨some 21, .bin .gtr none (.tmp 20) (.const (I 20000)), some (19, false)⟩,
  ⟨some 22, .pick (.tmp 19) (.const (.bool true)) (.tmp 21), none⟩,
  ⟨some 23, .mov (.tmp 22), none⟩,
  ⟨some 24, .mov (.tmp 7), some (23, false)⟩,
  ⟨some 25, .mov (.tmp 0), some (23, false)⟩,
  ⟨some 26, .len true (.tmp 25), some (23, false)⟩,
  ⟨some 27, .mov (.tmp 8), some (23, false)⟩,
  ⟨some 28, .bin .sub none (.tmp 26) (.tmp 27), some (23, false)⟩,
  ⟨some 29, .bin .gtr none (.tmp 24) (.tmp 28), some (23, false)⟩,
  ⟨some 30, .pick (.tmp 23) (.const (.bool true)) (.tmp 29), none⟩]) (
 .cond (.tmp 30) (.seq (.ops [⟨some 4, .mov (.const E), none⟩,
  ⟨some 5, .mov (.const (I 0)), none⟩,
  ⟨some 6, .mov (.const (.bool false)), none⟩]) (
 .ret)) (
 .skip))) (
 .seq (.ops [⟨some 31, .mov (.tmp 0), none⟩,
  ⟨some 32, .mov (.tmp 8), none⟩,
  ⟨some 33, .mov (.tmp 8), none⟩,
  ⟨some 34, .mov (.tmp 7), none⟩,
  ⟨some 35, .bin .add none (.tmp 33) (.tmp 34), none⟩,
  ⟨some 36, .sliceS (.tmp 31) (some (.tmp 32)) (some (.tmp 35)), none⟩,
  ⟨some 37, .mov (.tmp 8), none⟩,
  ⟨some 38, .mov (.tmp 7), none⟩,
  ⟨some 39, .bin .add none (.tmp 37) (.tmp 38), none⟩,
  ⟨some 4, .mov (.tmp 36), none⟩,
  ⟨some 5, .mov (.tmp 39), none⟩,
  ⟨some 6, .mov (.const (.bool true)), none⟩]) (
 .ret)))),
 40, [.tmp 4, .tmp 5, .tmp 6]⟩

def g_impl_scan_rest : SFn := ⟨.seq (.ops [⟨some 2, .mov (.const E), none⟩]) (
 .seq (.seq (.ops [⟨some 4, .mov (.tmp 0), none⟩,
  ⟨some 5, .nilChk (.tmp 4), none⟩,
  ⟨some 6, .fieldAddr 2 (.tmp 5), none⟩,
  ⟨some 7, .load false 1 (.tmp 6), none⟩]) (
 .cond (.tmp 7) (.seq (.ops [⟨some 2, .mov (.const E), none⟩]) (
 .ret)) (
 .skip))) (
 .seq (.draw [(⟨some 8, .mov (.tmp 0), none⟩, none),
  (⟨some 9, .nilChk (.tmp 8), none⟩, none),
  (⟨some 10, .fieldAddr 0 (.tmp 9), none⟩, none),
  (⟨some 11, .load false 1 (.tmp 10), none⟩, some (3, [], [])),
  (⟨some 12, .mov (.tmp 0), none⟩, none),
  (⟨some 13, .nilChk (.tmp 12), none⟩, none),
  (⟨some 14, .fieldAddr 1 (.tmp 13), none⟩, none),
  (⟨some 15, .load false 1 (.tmp 14), none⟩, some (7, [], [3])),
  (⟨some 16, .sliceS (.tmp 11) (some (.tmp 15)) none, none⟩, none),
  (⟨some 3, .mov (.tmp 16), none⟩, none)]) (
 .seq (.ops [⟨some 17, .mov (.tmp 0), none⟩,
  ⟨some 18, .mov (.tmp 0), none⟩,
  ⟨some 19, .nilChk (.tmp 18), none⟩,
  ⟨some 20, .fieldAddr 0 (.tmp 19), none⟩,
  ⟨some 21, .load false 1 (.tmp 20), none⟩,
  ⟨some 22, .len true (.tmp 21), none⟩,
  ⟨some 23, .nilChk (.tmp 17), none⟩,
  ⟨some 24, .fieldAddr 1 (.tmp 23), none⟩,
  ⟨none, .store 1 (.tmp 24) (.tmp 22), none⟩]) (
 .seq (.ops [⟨some 25, .mov (.tmp 3), none⟩,
  ⟨some 2, .mov (.tmp 25), none⟩]) (
 .ret))))),
 26, [.tmp 2]⟩

def g_laws_eqEntry : SFn := ⟨.seq (.ops [⟨some 2, .box (.tmp 0), none⟩,
  ⟨some 3, .box (.tmp 1), none⟩,
  ⟨some 4, .mov (.const (.bool false)), none⟩]) (
 .seq (.seq (.ops [⟨some 5, .fieldAddr 0 (.tmp 2), none⟩,
  ⟨some 6, .load false 1 (.tmp 5), none⟩,
  ⟨some 7, .fieldAddr 0 (.tmp 3), none⟩,
  ⟨some 8, .load false 1 (.tmp 7), none⟩,
  ⟨some 9, .bin .neq none (.tmp 6) (.tmp 8), none⟩]) (
 .cond (.tmp 9) (.seq (.ops [⟨some 4, .mov (.const (.bool false)), none⟩]) (
 .ret)) (
 .skip))) (
 .seq (.seq (.ops [⟨some 10, .fieldAddr 1 (.tmp 2), none⟩,
  ⟨some 11, .load false 1 (.tmp 10), none⟩,
  ⟨some 12, .fieldAddr 1 (.tmp 3), none⟩,
  ⟨some 13, .load false 1 (.tmp 12), none⟩,
  ⟨some 14, .bin .neq none (.tmp 11) (.tmp 13), none⟩]) (
 .cond (.tmp 14) (.seq (.ops [⟨some 4, .mov (.const (.bool false)), none⟩]) (
 .ret)) (
 .skip))) (
 .seq (.seq (.ops [⟨some 15, .fieldAddr 2 (.tmp 2), none⟩,
  ⟨some 16, .load false 1 (.tmp 15), none⟩,
  ⟨some 17, .fieldAddr 2 (.tmp 3), none⟩,
  ⟨some 18, .load false 1 (.tmp 17), none⟩,
  ⟨some 19, .bin .neq none (.tmp 16) (.tmp 18), none⟩]) (
 .cond (.tmp 19) (.seq (.ops [⟨some 4, .mov (.const (.bool false)), none⟩]) (
 .ret)) (
 .skip))) (
 .seq (.ops [⟨some 4, .mov (.const (.bool true)), none⟩]) (
 .ret))))),
 20, [.tmp 4]⟩

def g_laws_markText_L0 : SC := .seq (.seq (.ops [⟨some 6, .mov (.tmp 0), none⟩,
  ⟨some 7, .bin .gtr none (.tmp 6) (.const (I 0)), none⟩]) (
 .cond (.tmp 7) (.skip) (
 .exit 0))) (
 .block 1 (.seq (.ops [⟨some 8, .mov (.tmp 0), none⟩,
  ⟨some 9, .bin .rem none (.tmp 8) (.const (I 10)), none⟩,
  ⟨some 10, .bin .add none (.const (I 48)) (.tmp 9), none⟩,
  ⟨some 11, .convInt .u8 (.tmp 10), none⟩,
  ⟨some 12, .arr 1 [(.int .u8 0)] 1 [(0, 1, (.tmp 11))], none⟩,
  ⟨some 13, .convB2S (.tmp 12), none⟩,
  ⟨some 14, .mov (.tmp 3), none⟩,
  ⟨some 15, .bin .add none (.tmp 13) (.tmp 14), none⟩,
  ⟨some 3, .mov (.tmp 15), none⟩]) (
 .ops [⟨some 16, .mov (.tmp 0), none⟩,
  ⟨some 17, .bin .quo none (.tmp 16) (.const (I 10)), none⟩,
  ⟨some 0, .mov (.tmp 17), none⟩])))

def g_laws_markText : SFn := ⟨.seq (.ops [⟨some 2, .mov (.const E), none⟩]) (
 .seq (.seq (.ops [⟨some 4, .mov (.tmp 0), none⟩,
  ⟨some 5, .bin .leq none (.tmp 4) (.const (I 0)), none⟩]) (
 .cond (.tmp 5) (.seq (.ops [⟨some 2, .mov (.const (T [109, 48])), none⟩]) (
 .ret)) (
 .skip))) (
 .seq (.ops [⟨some 3, .mov (.const E), none⟩]) (
 .seq (.block 0 (.loop g_laws_markText_L0)) (
 .seq (.ops [⟨some 18, .mov (.tmp 3), none⟩,
  ⟨some 19, .bin .add none (.const (T [109])) (.tmp 18), none⟩,
  ⟨some 2, .mov (.tmp 19), none⟩]) (
 .ret))))),
 20, [.tmp 2]⟩

def g_spec_l17Right_L0 : SC := .seq (.seq (.ops [⟨some 40, .mov (.tmp 5), none⟩,
  ⟨some 41, .mov (.tmp 0), none⟩,
  ⟨some 42, .call n_spec_l01Below [(.tmp 41), (.const (I 5))], none⟩,
  ⟨some 43, .bin .lss none (.tmp 40) (.tmp 42), none⟩]) (
 .cond (.tmp 43) (.skip) (
 .exit 1))) (
 .seq (.block 2 (.seq (.ops [⟨some 46, .mov (.tmp 4), none⟩,
  ⟨some 47, .mov (.tmp 0), none⟩,
  ⟨some 48, .fieldAddr 3 (.tmp 3), none⟩,
  ⟨some 49, .load false 1 (.tmp 48), none⟩,
  ⟨some 50, .mov (.tmp 4), none⟩,
  ⟨some 51, .bin .sub none (.tmp 49) (.tmp 50), none⟩,
  ⟨some 52, .bin .add none (.tmp 51) (.const (I 1)), none⟩,
  ⟨some 53, .call n_spec_l01Below [(.tmp 47), (.tmp 52)], none⟩,
  ⟨some 54, .bin .add none (.tmp 46) (.tmp 53), none⟩,
  ⟨some 4, .mov (.tmp 54), none⟩]) (
 .draw [(⟨some 55, .fieldAddr 8 (.tmp 3), none⟩, none),
  (⟨some 56, .load false 1 (.tmp 55), none⟩, some (1, [], [])),
  (⟨some 57, .mov (.tmp 0), none⟩, none),
  (⟨some 58, .mov (.tmp 4), none⟩, none),
  (⟨some 59, .call n_spec_l05Right [(.tmp 57), (.tmp 58)], none⟩, some (4, [], [1])),
  (⟨some 60, .arr 3 [(I 0), (I 0), E] 1 [(0, 3, (.tmp 59))], none⟩, some (5, [4], [1])),
  (⟨some 61, .append 3 32 [(I 0), (I 0), E] (.tmp 56) (.tmp 60), none⟩, some (6, [5, 4, 1], [])),
  (⟨some 62, .fieldAddr 8 (.tmp 3), none⟩, none),
  (⟨none, .store 1 (.tmp 62) (.tmp 61), none⟩, some (8, [6, 5, 4, 1], []))]))) (
 .ops [⟨some 44, .mov (.tmp 5), none⟩,
  ⟨some 45, .bin .add none (.tmp 44) (.const (I 1)), none⟩,
  ⟨some 5, .mov (.tmp 45), none⟩]))

def g_spec_l17Right : SFn := ⟨.seq (.ops [⟨some 2, .new [(I 0), (I 0), (I 0), (I 0), (I 0), (I 0), (I 0), (.bool false), (.slice none 0 0), (.slice none 0 0), E, (.bool false)], none⟩]) (
 .seq (.ops [⟨some 6, .mov (.tmp 0), none⟩,
  ⟨some 7, .call n_spec_l01Below [(.tmp 6), (.const (I 6))], none⟩,
  ⟨some 8, .bin .add none (.const (I 1)) (.tmp 7), none⟩,
  ⟨some 9, .mov (.tmp 0), none⟩,
  ⟨some 10, .call n_spec_l01Below [(.tmp 9), (.const (I 4))], none⟩,
  ⟨some 11, .bin .add none (.const (I 1)) (.tmp 10), none⟩,
  ⟨some 12, .mov (.tmp 0), none⟩,
  ⟨some 13, .call n_spec_l01Below [(.tmp 12), (.const (I 8))], none⟩,
  ⟨some 14, .mov (.tmp 0), none⟩,
  ⟨some 15, .call n_spec_l01Below [(.tmp 14), (.const (I 12))], none⟩,
  ⟨some 16, .mov (.tmp 0), none⟩,
  ⟨some 17, .call n_spec_l01Below [(.tmp 16), (.const (I 5))], none⟩,
  ⟨some 18, .mov (.tmp 0), none⟩,
  ⟨some 19, .call n_spec_l01Below [(.tmp 18), (.const (I 9))], none⟩,
  ⟨some 20, .mov (.tmp 0), none⟩,
  ⟨some 21, .call n_spec_l01Once [(.tmp 20), (.const (I 2))], none⟩,
  ⟨some 22, .build [(I 0), (I 0), (I 0), (I 0), (I 0), (I 0), (I 0), (.bool false), (.slice none 0 0), (.slice none 0 0), E, (.bool false)] [(0, 1, (.tmp 8)), (1, 1, (.tmp 11)), (3, 1, (.tmp 13)), (4, 1, (.tmp 15)), (5, 1, (.tmp 17)), (6, 1, (.tmp 19)), (7, 1, (.tmp 21))], none⟩,
  ⟨some 3, .new [(I 0), (I 0), (I 0), (I 0), (I 0), (I 0), (I 0), (.bool false), (.slice none 0 0), (.slice none 0 0), E, (.bool false)], none⟩,
  ⟨none, .store 12 (.tmp 3) (.tmp 22), none⟩]) (
 .seq (.ops [⟨some 23, .fieldAddr 1 (.tmp 3), none⟩,
  ⟨some 24, .load false 1 (.tmp 23), none⟩,
  ⟨some 25, .bin .rem none (.tmp 24) (.const (I 4)), none⟩,
  ⟨some 26, .bin .add none (.tmp 25) (.const (I 1)), none⟩,
  ⟨some 27, .fieldAddr 2 (.tmp 3), none⟩,
  ⟨none, .store 1 (.tmp 27) (.tmp 26), none⟩]) (
 .seq (.seq (.ops [⟨some 28, .fieldAddr 0 (.tmp 3), none⟩,
  ⟨some 29, .load false 1 (.tmp 28), none⟩]) (
 .block 0 (.seq (.ops [⟨some 31, .bin .eql none (.tmp 29) (.const (I 3)), none⟩,
  ⟨some 30, .mov (.tmp 31), none⟩]) (
 .cond (.tmp 30) (.seq (.ops [⟨some 32, .mov (.tmp 0), none⟩,
  ⟨some 33, .fieldAddr 3 (.tmp 3), none⟩,
  ⟨some 34, .load false 1 (.tmp 33), none⟩,
  ⟨some 35, .bin .add none (.tmp 34) (.const (I 1)), none⟩,
  ⟨some 36, .call n_spec_l01Below [(.tmp 32), (.tmp 35)], none⟩,
  ⟨some 37, .fieldAddr 5 (.tmp 3), none⟩,
  ⟨none, .store 1 (.tmp 37) (.tmp 36), none⟩]) (
 .seq (.ops [⟨some 38, .fieldAddr 5 (.tmp 3), none⟩,
  ⟨some 39, .load false 1 (.tmp 38), none⟩,
  ⟨some 4, .mov (.tmp 39), none⟩]) (
 .seq (.ops [⟨some 5, .mov (.const (I 0)), none⟩]) (
 .block 1 (.loop g_spec_l17Right_L0))))) (
 .seq (.ops [⟨some 64, .bin .eql none (.tmp 29) (.const (I 5)), none⟩,
  ⟨some 63, .mov (.tmp 64), none⟩]) (
 .cond (.tmp 63) (.seq (.ops [⟨some 65, .mov (.tmp 0), none⟩,
  ⟨some 66, .call n_spec_l05Conf [(.tmp 65)], none⟩,
  ⟨some 67, .fieldAddr 9 (.tmp 3), none⟩,
  ⟨none, .store 1 (.tmp 67) (.tmp 66), none⟩]) (
 .seq (.ops [⟨some 68, .mov (.tmp 0), none⟩,
  ⟨some 69, .mov (.tmp 0), none⟩,
  ⟨some 70, .call n_spec_l01Below [(.tmp 69), (.const (I 9))], none⟩,
  ⟨some 71, .call n_spec_l01Text [(.tmp 68), (.tmp 70)], none⟩,
  ⟨some 72, .fieldAddr 10 (.tmp 3), none⟩,
  ⟨none, .store 1 (.tmp 72) (.tmp 71), none⟩]) (
 .ops [⟨some 73, .mov (.tmp 0), none⟩,
  ⟨some 74, .call n_spec_l01Once [(.tmp 73), (.const (I 2))], none⟩,
  ⟨some 75, .fieldAddr 11 (.tmp 3), none⟩,
  ⟨none, .store 1 (.tmp 75) (.tmp 74), none⟩]))) (
 .skip))))))) (
 .seq (.ops [⟨some 76, .load true 12 (.tmp 3), none⟩,
  ⟨none, .store 12 (.tmp 2) (.tmp 76), none⟩]) (
 .ret))))),
 77, [.cell true 12 2]⟩

def g_spec_l01Below : SFn := ⟨.seq (.ops [⟨some 4, .mov (.const (I 0)), none⟩]) (
 .seq (.seq (.ops [⟨some 9, .mov (.tmp 1), none⟩,
  ⟨some 10, .bin .leq none (.tmp 9) (.const (I 0)), none⟩]) (
 .cond (.tmp 10) (.seq (.ops [⟨some 4, .mov (.const (I 0)), none⟩]) (
 .ret)) (
 .skip))) (
 .seq (.seq (.ops [⟨some 11, .mov (.tmp 1), none⟩,
  ⟨some 12, .bin .leq none (.tmp 11) (.const (I 256)), none⟩]) (
 .cond (.tmp 12) (.seq (.ops [⟨some 13, .mov (.tmp 0), none⟩,
  ⟨some 14, .call n_spec_l01Byte [(.tmp 13)], none⟩,
  ⟨some 15, .mov (.tmp 1), none⟩,
  ⟨some 16, .bin .rem none (.tmp 14) (.tmp 15), none⟩,
  ⟨some 4, .mov (.tmp 16), none⟩]) (
 .ret)) (
 .skip))) (
 .seq (.ops [⟨some 17, .mov (.tmp 0), none⟩,
  ⟨some 18, .call n_spec_l01Byte [(.tmp 17)], none⟩,
  ⟨some 5, .mov (.tmp 18), none⟩]) (
 .seq (.ops [⟨some 19, .mov (.tmp 0), none⟩,
  ⟨some 20, .call n_spec_l01Byte [(.tmp 19)], none⟩,
  ⟨some 6, .mov (.tmp 20), none⟩]) (
 .seq (.ops [⟨some 21, .mov (.tmp 0), none⟩,
  ⟨some 22, .call n_spec_l01Byte [(.tmp 21)], none⟩,
  ⟨some 7, .mov (.tmp 22), none⟩]) (
 .seq (.ops [⟨some 23, .mov (.tmp 0), none⟩,
  ⟨some 24, .call n_spec_l01Byte [(.tmp 23)], none⟩,
  ⟨some 8, .mov (.tmp 24), none⟩]) (
 .seq (.ops [⟨some 25, .mov (.tmp 5), none⟩,
  ⟨some 26, .bin .mul none (.tmp 25) (.const (I 16777216)), none⟩,
  ⟨some 27, .mov (.tmp 6), none⟩,
  ⟨some 28, .bin .mul none (.tmp 27) (.const (I 65536)), none⟩,
  ⟨some 29, .bin .add none (.tmp 26) (.tmp 28), none⟩,
  ⟨some 30, .mov (.tmp 7), none⟩,
  ⟨some 31, .bin .mul none (.tmp 30) (.const (I 256)), none⟩,
  ⟨some 32, .bin .add none (.tmp 29) (.tmp 31), none⟩,
  ⟨some 33, .mov (.tmp 8), none⟩,
  ⟨some 34, .bin .add none (.tmp 32) (.tmp 33), none⟩,
  ⟨some 35, .mov (.tmp 1), none⟩,
  ⟨some 36, .bin .rem none (.tmp 34) (.tmp 35), none⟩,
  ⟨some 4, .mov (.tmp 36), none⟩]) (
 .ret)))))))),
 37, [.tmp 4]⟩

def g_spec_l01PickInt : SFn := ⟨.seq (.ops [⟨some 4, .mov (.const (I 0)), none⟩]) (
 .seq (.ops [⟨some 5, .mov (.tmp 1), none⟩,
  ⟨some 6, .mov (.tmp 0), none⟩,
  ⟨some 7, .mov (.tmp 1), none⟩,
  ⟨some 8, .len false (.tmp 7), none⟩,
  ⟨some 9, .call n_spec_l01Below [(.tmp 6), (.tmp 8)], none⟩,
  ⟨some 10, .idxAddr 1 (.tmp 5) (.tmp 9), none⟩,
  ⟨some 11, .load false 1 (.tmp 10), none⟩,
  ⟨some 4, .mov (.tmp 11), none⟩]) (
 .ret)),
 12, [.tmp 4]⟩

def g_spec_l05Any : SFn := ⟨.seq (.ops [⟨some 2, .new [(I 0), (I 0), E], none⟩]) (
 .seq (.ops [⟨some 4, .mov (.tmp 0), none⟩,
  ⟨some 5, .mov (.tmp 0), none⟩,
  ⟨some 6, .call n_spec_l01Below [(.tmp 5), (.const (I 9))], none⟩,
  ⟨some 7, .call n_spec_l05Right [(.tmp 4), (.tmp 6)], none⟩,
  ⟨some 3, .new [(I 0), (I 0), E], none⟩,
  ⟨none, .store 3 (.tmp 3) (.tmp 7), none⟩]) (
 .seq (.seq (.ops [⟨some 8, .mov (.tmp 0), none⟩,
  ⟨some 9, .call n_spec_l01Below [(.tmp 8), (.const (I 30))], none⟩]) (
 .block 0 (.seq (.ops [⟨some 11, .bin .eql none (.tmp 9) (.const (I 0)), none⟩,
  ⟨some 10, .mov (.tmp 11), none⟩]) (
 .cond (.tmp 10) (.ops [⟨some 12, .mov (.tmp 0), none⟩,
  ⟨some 13, .arr 1 [(I 0)] 3 [(0, 1, (.const (I (-1)))), (1, 1, (.const (I 100000))), (2, 1, (.const (I 100001)))], none⟩,
  ⟨some 14, .call n_spec_l01PickInt [(.tmp 12), (.tmp 13)], none⟩,
  ⟨some 15, .fieldAddr 0 (.tmp 3), none⟩,
  ⟨none, .store 1 (.tmp 15) (.tmp 14), none⟩]) (
 .seq (.ops [⟨some 17, .bin .eql none (.tmp 9) (.const (I 1)), none⟩,
  ⟨some 16, .mov (.tmp 17), none⟩]) (
 .cond (.tmp 16) (.ops [⟨some 18, .mov (.tmp 0), none⟩,
  ⟨some 19, .arr 1 [(I 0)] 4 [(0, 1, (.const (I 0))), (1, 1, (.const (I 4))), (2, 1, (.const (I 1))), (3, 1, (.const (I 2)))], none⟩,
  ⟨some 20, .call n_spec_l01PickInt [(.tmp 18), (.tmp 19)], none⟩,
  ⟨some 21, .fieldAddr 1 (.tmp 3), none⟩,
  ⟨none, .store 1 (.tmp 21) (.tmp 20), none⟩]) (
 .seq (.ops [⟨some 23, .bin .eql none (.tmp 9) (.const (I 2)), none⟩,
  ⟨some 22, .mov (.tmp 23), none⟩]) (
 .cond (.tmp 22) (.ops [⟨some 24, .mov (.tmp 0), none⟩,
  ⟨some 25, .call n_spec_l01Below [(.tmp 24), (.const (I 2))], none⟩,
  ⟨some 26, .bin .add none (.const (I 120)) (.tmp 25), none⟩,
  ⟨some 27, .call n_spec_l01Long [(.tmp 26), (.const (.int .u8 65))], none⟩,
  ⟨some 28, .build [(I 0), (I 0), E] [(1, 1, (.const (I 3))), (2, 1, (.tmp 27))], none⟩,
  ⟨none, .store 3 (.tmp 3) (.tmp 28), none⟩]) (
 .skip))))))))) (
 .seq (.ops [⟨some 29, .load true 3 (.tmp 3), none⟩,
  ⟨none, .store 3 (.tmp 2) (.tmp 29), none⟩]) (
 .ret)))),
 30, [.cell true 3 2]⟩

def g_spec_l01Long_L0 : SC := .seq (.seq (.ops [⟨some 9, .mov (.tmp 6), none⟩,
  ⟨some 10, .mov (.tmp 0), none⟩,
  ⟨some 11, .bin .lss none (.tmp 9) (.tmp 10), none⟩]) (
 .cond (.tmp 11) (.skip) (
 .exit 0))) (
 .seq (.block 1 (.ops [⟨some 14, .mov (.tmp 5), none⟩,
  ⟨some 15, .mov (.tmp 6), none⟩,
  ⟨some 16, .mov (.tmp 1), none⟩,
  ⟨some 17, .idxAddr 1 (.tmp 14) (.tmp 15), none⟩,
  ⟨none, .store 1 (.tmp 17) (.tmp 16), none⟩])) (
 .ops [⟨some 12, .mov (.tmp 6), none⟩,
  ⟨some 13, .bin .add none (.tmp 12) (.const (I 1)), none⟩,
  ⟨some 6, .mov (.tmp 13), none⟩]))

def g_spec_l01Long : SFn := ⟨.seq (.ops [⟨some 4, .mov (.const E), none⟩]) (
 .seq (.ops [⟨some 7, .mov (.tmp 0), none⟩,
  ⟨some 8, .mkSlice 1 1 [(.int .u8 0)] (.tmp 7) (.tmp 7), none⟩,
  ⟨some 5, .mov (.tmp 8), none⟩]) (
 .seq (.seq (.ops [⟨some 6, .mov (.const (I 0)), none⟩]) (
 .block 0 (.loop g_spec_l01Long_L0))) (
 .seq (.ops [⟨some 18, .mov (.tmp 5), none⟩,
  ⟨some 19, .convB2S (.tmp 18), none⟩,
  ⟨some 4, .mov (.tmp 19), none⟩]) (
 .ret)))),
 20, [.tmp 4]⟩

def g_spec_l05AnyConf : SFn := ⟨.seq (.ops [⟨some 2, .mov (.const (.slice none 0 0)), none⟩]) (
 .seq (.ops [⟨some 4, .mov (.tmp 0), none⟩,
  ⟨some 5, .call n_spec_l05Conf [(.tmp 4)], none⟩,
  ⟨some 3, .mov (.tmp 5), none⟩]) (
 .seq (.seq (.ops [⟨some 6, .mov (.tmp 0), none⟩,
  ⟨some 7, .call n_spec_l01Below [(.tmp 6), (.const (I 12))], none⟩]) (
 .block 0 (.seq (.ops [⟨some 9, .bin .eql none (.tmp 7) (.const (I 0)), none⟩,
  ⟨some 8, .mov (.tmp 9), none⟩]) (
 .cond (.tmp 8) (.ops [⟨some 10, .mov (.tmp 3), none⟩,
  ⟨some 11, .mov (.tmp 0), none⟩,
  ⟨some 12, .arr 1 [(I 0)] 4 [(0, 1, (.const (I 0))), (1, 1, (.const (I 4))), (2, 1, (.const (I 5))), (3, 1, (.const (I 1)))], none⟩,
  ⟨some 13, .call n_spec_l01PickInt [(.tmp 11), (.tmp 12)], none⟩,
  ⟨some 14, .arr 1 [(I 0)] 1 [(0, 1, (.tmp 13))], none⟩,
  ⟨some 15, .append 1 8 [(I 0)] (.tmp 10) (.tmp 14), none⟩,
  ⟨some 3, .mov (.tmp 15), none⟩]) (
 .seq (.ops [⟨some 17, .bin .eql none (.tmp 7) (.const (I 1)), none⟩,
  ⟨some 16, .mov (.tmp 17), none⟩]) (
 .cond (.tmp 16) (.ops [⟨some 18, .arr 1 [(I 0)] 0 [], none⟩,
  ⟨some 3, .mov (.tmp 18), none⟩]) (
 .skip))))))) (
 .seq (.ops [⟨some 19, .mov (.tmp 3), none⟩,
  ⟨some 2, .mov (.tmp 19), none⟩]) (
 .ret)))),
 20, [.tmp 2]⟩

def g_impl_VarText_L0 : SC := .seq (.seq (.ops [⟨some 9, .mov (.tmp 0), none⟩,
  ⟨some 10, .bin .gtr none (.tmp 9) (.const (I 127)), none⟩]) (
 .cond (.tmp 10) (.skip) (
 .exit 0))) (
 .block 1 (.seq (.ops [⟨some 11, .mov (.tmp 4), none⟩,
  ⟨some 12, .mov (.tmp 0), none⟩,
  ⟨some 13, .bin .rem none (.tmp 12) (.const (I 128)), none⟩,
  ⟨some 14, .bin .add none (.tmp 13) (.const (I 128)), none⟩,
  ⟨some 15, .convInt .u8 (.tmp 14), none⟩,
  ⟨some 16, .arr 1 [(.int .u8 0)] 1 [(0, 1, (.tmp 15))], none⟩,
  ⟨some 17, .append 1 1 [(.int .u8 0)] (.tmp 11) (.tmp 16), none⟩,
  ⟨some 4, .mov (.tmp 17), none⟩]) (
 .ops [⟨some 18, .mov (.tmp 0), none⟩,
  ⟨some 19, .bin .quo none (.tmp 18) (.const (I 128)), none⟩,
  ⟨some 0, .mov (.tmp 19), none⟩])))

def g_impl_VarText : SFn := ⟨.seq (.ops [⟨some 2, .mov (.const E), none⟩,
  ⟨some 3, .mov (.const (.bool false)), none⟩]) (
 .seq (.seq (.ops [⟨some 5, .mov (.tmp 0), none⟩,
  ⟨some 6, .call n_impl_within [(.tmp 5), (.const (I 0)), (.const (I 1000000000))], none⟩,
  ⟨some 7, .un .not (.tmp 6), none⟩]) (
 .cond (.tmp 7) (.seq (.ops [⟨some 2, .mov (.const E), none⟩,
  ⟨some 3, .mov (.const (.bool false)), none⟩]) (
 .ret)) (
 .skip))) (
 .seq (.ops [⟨some 8, .arr 1 [(.int .u8 0)] 0 [], none⟩,
  ⟨some 4, .mov (.tmp 8), none⟩]) (
 .seq (.block 0 (.loop g_impl_VarText_L0)) (
 .seq (.ops [⟨some 20, .mov (.tmp 4), none⟩,
  ⟨some 21, .mov (.tmp 0), none⟩,
  ⟨some 22, .convInt .u8 (.tmp 21), none⟩,
  ⟨some 23, .arr 1 [(.int .u8 0)] 1 [(0, 1, (.tmp 22))], none⟩,
  ⟨some 24, .append 1 1 [(.int .u8 0)] (.tmp 20) (.tmp 23), none⟩,
  ⟨some 25, .convB2S (.tmp 24), none⟩,
  ⟨some 2, .mov (.tmp 25), none⟩,
  ⟨some 3, .mov (.const (.bool true)), none⟩]) (
 .ret))))),
 26, [.tmp 2, .tmp 3]⟩

def g_impl_ShortText : SFn := ⟨.seq (.ops [⟨some 2, .mov (.const E), none⟩,
  ⟨some 3, .mov (.const (.bool false)), none⟩]) (
 .seq (.seq (.ops [⟨some 6, .mov (.tmp 0), none⟩,
  ⟨some 7, .len true (.tmp 6), none⟩,
  ⟨some 8, .bin .gtr none (.tmp 7) (.const (I 20000)), none⟩]) (
 .cond (.tmp 8) (.seq (.ops [⟨some 2, .mov (.const E), none⟩,
  ⟨some 3, .mov (.const (.bool false)), none⟩]) (
 .ret)) (
 .skip))) (
 .seq (.ops [⟨some 10, .mov (.tmp 0), none⟩,
  ⟨some 11, .len true (.tmp 10), none⟩,
  ⟨some 12, .call n_impl_VarText [(.tmp 11)], none⟩,
  ⟨some 9, .mov (.tmp 12), none⟩,
  ⟨some 13, .extract 0 (.tmp 9), none⟩,
  ⟨some 14, .extract 1 (.tmp 9), none⟩,
  ⟨some 4, .mov (.tmp 13), none⟩,
  ⟨some 5, .mov (.tmp 14), none⟩]) (
 .seq (.ops [⟨some 15, .mov (.tmp 4), none⟩,
  ⟨some 16, .mov (.tmp 0), none⟩,
  ⟨some 17, .bin .add none (.tmp 15) (.tmp 16), none⟩,
  ⟨some 2, .mov (.tmp 17), none⟩,
  ⟨some 3, .mov (.const (.bool true)), none⟩]) (
 .ret)))),
 18, [.tmp 2, .tmp 3]⟩

def g_spec_l05Rise_L0 : SC := .seq (.seq (.ops [⟨some 8, .mov (.tmp 7), none⟩,
  ⟨some 9, .mov (.tmp 0), none⟩,
  ⟨some 10, .len false (.tmp 9), none⟩,
  ⟨some 11, .bin .lss none (.tmp 8) (.tmp 10), none⟩]) (
 .cond (.tmp 11) (.skip) (
 .exit 0))) (
 .seq (.block 1 (.seq (.draw [(⟨some 14, .mov (.tmp 0), none⟩, none),
  (⟨some 15, .mov (.tmp 7), none⟩, none),
  (⟨some 16, .idxAddr 1 (.tmp 14) (.tmp 15), none⟩, none),
  (⟨some 17, .load false 1 (.tmp 16), none⟩, some (3, [], [])),
  (⟨some 18, .mov (.tmp 1), none⟩, none),
  (⟨some 19, .mov (.tmp 2), none⟩, none),
  (⟨some 20, .call n_spec_l01In [(.tmp 17), (.tmp 18), (.tmp 19)], none⟩, some (6, [3], [])),
  (⟨some 21, .un .not (.tmp 20), none⟩, none),
  (⟨some 22, .mov (.tmp 21), none⟩, none),
  (⟨some 23, .mov (.tmp 7), some (22, false)⟩, none),
  (⟨some 24, .bin .gtr none (.tmp 23) (.const (I 0)), some (22, false)⟩, none),
  (⟨some 25, .mov (.tmp 24), some (22, false)⟩, none),
  (⟨some 26, .mov (.tmp 0), some (25, true)⟩, none),
  (⟨some 27, .mov (.tmp 7), some (25, true)⟩, none),
  (⟨some 28, .bin .sub none (.tmp 27) (.const (I 1)), some (25, true)⟩, none),
  (⟨some 29, .idxAddr 1 (.tmp 26) (.tmp 28), some (25, true)⟩, none),
  (⟨some 30, .load false 1 (.tmp 29), some (25, true)⟩, some (16, [6, 3], [])),
  (⟨some 31, .mov (.tmp 0), some (25, true)⟩, none),
  (⟨some 32, .mov (.tmp 7), some (25, true)⟩, none),
  (⟨some 33, .idxAddr 1 (.tmp 31) (.tmp 32), some (25, true)⟩, none),
  (⟨some 34, .load false 1 (.tmp 33), some (25, true)⟩, some (20, [6, 3], [16])),
  (⟨some 35, .bin .geq none (.tmp 30) (.tmp 34), some (25, true)⟩, none),
  (⟨some 36, .pick (.tmp 25) (.tmp 35) (.const (.bool false)), some (22, false)⟩, none),
  (⟨some 37, .pick (.tmp 22) (.const (.bool true)) (.tmp 36), none⟩, none)]) (
 .cond (.tmp 37) (.seq (.ops [⟨some 6, .mov (.const (.bool false)), none⟩]) (
 .ret)) (
 .skip)))) (
 .ops [⟨some 12, .mov (.tmp 7), none⟩,
  ⟨some 13, .bin .add none (.tmp 12) (.const (I 1)), none⟩,
  ⟨some 7, .mov (.tmp 13), none⟩]))

def g_spec_l05Rise : SFn := ⟨.seq (.ops [⟨some 6, .mov (.const (.bool false)), none⟩]) (
 .seq (.seq (.ops [⟨some 7, .mov (.const (I 0)), none⟩]) (
 .block 0 (.loop g_spec_l05Rise_L0))) (
 .seq (.ops [⟨some 6, .mov (.const (.bool true)), none⟩]) (
 .ret))),
 38, [.tmp 6]⟩

def g_impl_nodesOk_L0 : SC := .seq (.ops [⟨some 8, .bin .lss none (.tmp 7) (.tmp 6), none⟩]) (
 .seq (.cond (.tmp 8) (.skip) (
 .exit 0)) (
 .seq (.block 1 (.seq (.ops [⟨some 9, .mov (.tmp 7), none⟩,
  ⟨some 10, .idxAddr 1 (.tmp 5) (.tmp 7), none⟩,
  ⟨some 11, .load false 1 (.tmp 10), none⟩,
  ⟨some 3, .mov (.tmp 9), none⟩,
  ⟨some 4, .mov (.tmp 11), none⟩]) (
 .seq (.ops [⟨some 12, .mov (.tmp 4), none⟩,
  ⟨some 13, .call n_impl_isNode [(.tmp 12)], none⟩,
  ⟨some 14, .un .not (.tmp 13), none⟩,
  ⟨some 15, .mov (.tmp 14), none⟩,
  ⟨some 16, .mov (.tmp 3), some (15, false)⟩,
  ⟨some 17, .bin .gtr none (.tmp 16) (.const (I 0)), some (15, false)⟩,
  ⟨some 18, .mov (.tmp 17), some (15, false)⟩,
  ⟨some 19, .mov (.tmp 0), some (18, true)⟩,
  ⟨some 20, .mov (.tmp 3), some (18, true)⟩,
  ⟨some 21, .bin .sub none (.tmp 20) (.const (I 1)), some (18, true)⟩,
  ⟨some 22, .idxAddr 1 (.tmp 19) (.tmp 21), some (18, true)⟩,
  ⟨some 23, .load false 1 (.tmp 22), some (18, true)⟩,
  ⟨some 24, .mov (.tmp 4), some (18, true)⟩,
  ⟨some 25, .bin .geq none (.tmp 23) (.tmp 24), some (18, true)⟩,
  ⟨some 26, .pick (.tmp 18) (.tmp 25) (.const (.bool false)), some (15, false)⟩,
  ⟨some 27, .pick (.tmp 15) (.const (.bool true)) (.tmp 26), none⟩]) (
 .cond (.tmp 27) (.seq (.ops [⟨some 2, .mov (.const (.bool false)), none⟩]) (
 .ret)) (
 .skip))))) (
 .ops [⟨some 28, .bin .add none (.tmp 7) (.const (I 1)), none⟩,
  ⟨some 7, .mov (.tmp 28), none⟩])))

def g_impl_nodesOk : SFn := ⟨.seq (.ops [⟨some 2, .mov (.const (.bool false)), none⟩]) (
 .seq (.seq (.ops [⟨some 5, .mov (.tmp 0), none⟩,
  ⟨some 6, .len false (.tmp 5), none⟩,
  ⟨some 7, .mov (.const (I 0)), none⟩]) (
 .block 0 (.loop g_impl_nodesOk_L0))) (
 .seq (.ops [⟨some 2, .mov (.const (.bool true)), none⟩]) (
 .ret))),
 29, [.tmp 2]⟩

def g_spec_l01Text_L0 : SC := .seq (.seq (.ops [⟨some 10, .mov (.tmp 6), none⟩,
  ⟨some 11, .mov (.tmp 1), none⟩,
  ⟨some 12, .bin .lss none (.tmp 10) (.tmp 11), none⟩]) (
 .cond (.tmp 12) (.skip) (
 .exit 0))) (
 .seq (.block 1 (.ops [⟨some 15, .mov (.tmp 5), none⟩,
  ⟨some 16, .mov (.tmp 0), none⟩,
  ⟨some 17, .call n_spec_l01Byte [(.tmp 16)], none⟩,
  ⟨some 18, .convInt .u8 (.tmp 17), none⟩,
  ⟨some 19, .arr 1 [(.int .u8 0)] 1 [(0, 1, (.tmp 18))], none⟩,
  ⟨some 20, .append 1 1 [(.int .u8 0)] (.tmp 15) (.tmp 19), none⟩,
  ⟨some 5, .mov (.tmp 20), none⟩])) (
 .ops [⟨some 13, .mov (.tmp 6), none⟩,
  ⟨some 14, .bin .add none (.tmp 13) (.const (I 1)), none⟩,
  ⟨some 6, .mov (.tmp 14), none⟩]))

def g_spec_l01Text : SFn := ⟨.seq (.ops [⟨some 4, .mov (.const E), none⟩]) (
 .seq (.seq (.ops [⟨some 7, .mov (.tmp 1), none⟩,
  ⟨some 8, .bin .gtr none (.tmp 7) (.const (I 5000)), none⟩]) (
 .cond (.tmp 8) (.ops [⟨some 1, .mov (.const (I 5000)), none⟩]) (
 .skip))) (
 .seq (.ops [⟨some 9, .arr 1 [(.int .u8 0)] 0 [], none⟩,
  ⟨some 5, .mov (.tmp 9), none⟩]) (
 .seq (.seq (.ops [⟨some 6, .mov (.const (I 0)), none⟩]) (
 .block 0 (.loop g_spec_l01Text_L0))) (
 .seq (.ops [⟨some 21, .mov (.tmp 5), none⟩,
  ⟨some 22, .convB2S (.tmp 21), none⟩,
  ⟨some 4, .mov (.tmp 22), none⟩]) (
 .ret))))),
 23, [.tmp 4]⟩

def g_spec_l01Once : SFn := ⟨.seq (.ops [⟨some 4, .mov (.const (.bool false)), none⟩]) (
 .seq (.ops [⟨some 5, .mov (.tmp 0), none⟩,
  ⟨some 6, .mov (.tmp 1), none⟩,
  ⟨some 7, .call n_spec_l01Below [(.tmp 5), (.tmp 6)], none⟩,
  ⟨some 8, .bin .eql none (.tmp 7) (.const (I 0)), none⟩,
  ⟨some 4, .mov (.tmp 8), none⟩]) (
 .ret)),
 9, [.tmp 4]⟩

def g_spec_l05Right : SFn := ⟨.seq (.ops [⟨some 4, .new [(I 0), (I 0), E], none⟩]) (
 .seq (.ops [⟨some 6, .mov (.tmp 1), none⟩,
  ⟨some 7, .mov (.tmp 0), none⟩,
  ⟨some 8, .arr 1 [(I 0)] 5 [(0, 1, (.const (I 1))), (1, 1, (.const (I 2))), (2, 1, (.const (I 3))), (3, 1, (.const (I 3))), (4, 1, (.const (I 3)))], none⟩,
  ⟨some 9, .call n_spec_l01PickInt [(.tmp 7), (.tmp 8)], none⟩,
  ⟨some 10, .build [(I 0), (I 0), E] [(0, 1, (.tmp 6)), (1, 1, (.tmp 9))], none⟩,
  ⟨some 5, .new [(I 0), (I 0), E], none⟩,
  ⟨none, .store 3 (.tmp 5) (.tmp 10), none⟩]) (
 .seq (.seq (.ops [⟨some 11, .fieldAddr 1 (.tmp 5), none⟩,
  ⟨some 12, .load false 1 (.tmp 11), none⟩]) (
 .block 0 (.seq (.ops [⟨some 14, .bin .eql none (.tmp 12) (.const (I 2)), none⟩,
  ⟨some 13, .mov (.tmp 14), none⟩]) (
 .cond (.tmp 13) (.ops [⟨some 16, .mov (.tmp 0), none⟩,
  ⟨some 17, .call n_spec_l05Conf [(.tmp 16)], none⟩,
  ⟨some 18, .call n_spec_ConfText [(.tmp 17)], none⟩,
  ⟨some 15, .mov (.tmp 18), none⟩,
  ⟨some 19, .extract 0 (.tmp 15), none⟩,
  ⟨some 20, .extract 1 (.tmp 15), none⟩,
  ⟨some 21, .fieldAddr 2 (.tmp 5), none⟩,
  ⟨none, .store 1 (.tmp 21) (.tmp 19), none⟩]) (
 .seq (.ops [⟨some 23, .bin .eql none (.tmp 12) (.const (I 3)), none⟩,
  ⟨some 22, .mov (.tmp 23), none⟩]) (
 .cond (.tmp 22) (.ops [⟨some 25, .mov (.tmp 0), none⟩,
  ⟨some 26, .call n_spec_l16Right [(.tmp 25)], none⟩,
  ⟨some 27, .call n_spec_CommandText [(.tmp 26)], none⟩,
  ⟨some 24, .mov (.tmp 27), none⟩,
  ⟨some 28, .extract 0 (.tmp 24), none⟩,
  ⟨some 29, .extract 1 (.tmp 24), none⟩,
  ⟨some 30, .fieldAddr 2 (.tmp 5), none⟩,
  ⟨none, .store 1 (.tmp 30) (.tmp 28), none⟩]) (
 .skip))))))) (
 .seq (.ops [⟨some 31, .load true 3 (.tmp 5), none⟩,
  ⟨none, .store 3 (.tmp 4) (.tmp 31), none⟩]) (
 .ret)))),
 32, [.cell true 3 4]⟩

def g_spec_l05Conf_L0 : SC := .seq (.seq (.ops [⟨some 6, .mov (.tmp 4), none⟩,
  ⟨some 7, .bin .leq none (.tmp 6) (.const (I 4)), none⟩]) (
 .cond (.tmp 7) (.skip) (
 .exit 0))) (
 .seq (.block 1 (.seq (.ops [⟨some 10, .mov (.tmp 0), none⟩,
  ⟨some 11, .call n_spec_l01Once [(.tmp 10), (.const (I 2))], none⟩]) (
 .cond (.tmp 11) (.ops [⟨some 12, .mov (.tmp 3), none⟩,
  ⟨some 13, .mov (.tmp 4), none⟩,
  ⟨some 14, .arr 1 [(I 0)] 1 [(0, 1, (.tmp 13))], none⟩,
  ⟨some 15, .append 1 8 [(I 0)] (.tmp 12) (.tmp 14), none⟩,
  ⟨some 3, .mov (.tmp 15), none⟩]) (
 .skip)))) (
 .ops [⟨some 8, .mov (.tmp 4), none⟩,
  ⟨some 9, .bin .add none (.tmp 8) (.const (I 1)), none⟩,
  ⟨some 4, .mov (.tmp 9), none⟩]))

def g_spec_l05Conf : SFn := ⟨.seq (.ops [⟨some 2, .mov (.const (.slice none 0 0)), none⟩]) (
 .seq (.ops [⟨some 5, .arr 1 [(I 0)] 0 [], none⟩,
  ⟨some 3, .mov (.tmp 5), none⟩]) (
 .seq (.seq (.ops [⟨some 4, .mov (.const (I 1)), none⟩]) (
 .block 0 (.loop g_spec_l05Conf_L0))) (
 .seq (.seq (.ops [⟨some 16, .mov (.tmp 3), none⟩,
  ⟨some 17, .len false (.tmp 16), none⟩,
  ⟨some 18, .bin .eql none (.tmp 17) (.const (I 0)), none⟩]) (
 .cond (.tmp 18) (.ops [⟨some 19, .mov (.tmp 3), none⟩,
  ⟨some 20, .arr 1 [(I 0)] 1 [(0, 1, (.const (I 1)))], none⟩,
  ⟨some 21, .append 1 8 [(I 0)] (.tmp 19) (.tmp 20), none⟩,
  ⟨some 3, .mov (.tmp 21), none⟩]) (
 .skip))) (
 .seq (.ops [⟨some 22, .mov (.tmp 3), none⟩,
  ⟨some 2, .mov (.tmp 22), none⟩]) (
 .ret))))),
 23, [.tmp 2]⟩

def g_spec_l01Byte : SFn := ⟨.seq (.ops [⟨some 2, .mov (.const (I 0)), none⟩]) (
 .seq (.ops [⟨some 4, .mov (.tmp 0), none⟩,
  ⟨some 5, .mov (.tmp 0), none⟩,
  ⟨some 6, .nilChk (.tmp 5), none⟩,
  ⟨some 7, .fieldAddr 2 (.tmp 6), none⟩,
  ⟨some 8, .load false 1 (.tmp 7), none⟩,
  ⟨some 9, .bin .mul none (.tmp 8) (.const (I 6364136223846793005)), none⟩,
  ⟨some 10, .bin .add none (.tmp 9) (.const (I 1442695040888963407)), none⟩,
  ⟨some 11, .nilChk (.tmp 4), none⟩,
  ⟨some 12, .fieldAddr 2 (.tmp 11), none⟩,
  ⟨none, .store 1 (.tmp 12) (.tmp 10), none⟩]) (
 .seq (.draw [(⟨some 13, .mov (.tmp 0), none⟩, none),
  (⟨some 14, .nilChk (.tmp 13), none⟩, none),
  (⟨some 15, .fieldAddr 2 (.tmp 14), none⟩, none),
  (⟨some 16, .load false 1 (.tmp 15), none⟩, some (3, [], [])),
  (⟨some 17, .bin .shr none (.tmp 16) (.const (.int .u64 33)), none⟩, none),
  (⟨some 18, .mov (.tmp 0), none⟩, none),
  (⟨some 19, .nilChk (.tmp 18), none⟩, none),
  (⟨some 20, .fieldAddr 2 (.tmp 19), none⟩, none),
  (⟨some 21, .load false 1 (.tmp 20), none⟩, some (8, [], [3])),
  (⟨some 22, .bin .shr none (.tmp 21) (.const (.int .u64 45)), none⟩, none),
  (⟨some 23, .bin .xor none (.tmp 17) (.tmp 22), none⟩, none),
  (⟨some 24, .bin .and none (.tmp 23) (.const (I 255)), none⟩, none),
  (⟨some 3, .mov (.tmp 24), none⟩, none)]) (
 .seq (.seq (.draw [(⟨some 25, .mov (.tmp 0), none⟩, none),
  (⟨some 26, .nilChk (.tmp 25), none⟩, none),
  (⟨some 27, .fieldAddr 1 (.tmp 26), none⟩, none),
  (⟨some 28, .load false 1 (.tmp 27), none⟩, some (3, [], [])),
  (⟨some 29, .mov (.tmp 0), none⟩, none),
  (⟨some 30, .nilChk (.tmp 29), none⟩, none),
  (⟨some 31, .fieldAddr 0 (.tmp 30), none⟩, none),
  (⟨some 32, .load false 1 (.tmp 31), none⟩, some (7, [], [3])),
  (⟨some 33, .len false (.tmp 32), none⟩, none),
  (⟨some 34, .bin .lss none (.tmp 28) (.tmp 33), none⟩, none)]) (
 .cond (.tmp 34) (.seq (.draw [(⟨some 35, .mov (.tmp 3), none⟩, none),
  (⟨some 36, .mov (.tmp 0), none⟩, none),
  (⟨some 37, .nilChk (.tmp 36), none⟩, none),
  (⟨some 38, .fieldAddr 0 (.tmp 37), none⟩, none),
  (⟨some 39, .load false 1 (.tmp 38), none⟩, some (4, [], [])),
  (⟨some 40, .mov (.tmp 0), none⟩, none),
  (⟨some 41, .nilChk (.tmp 40), none⟩, none),
  (⟨some 42, .fieldAddr 1 (.tmp 41), none⟩, none),
  (⟨some 43, .load false 1 (.tmp 42), none⟩, some (8, [], [4])),
  (⟨some 44, .idxAddr 1 (.tmp 39) (.tmp 43), none⟩, none),
  (⟨some 45, .load false 1 (.tmp 44), none⟩, some (10, [8, 4], [])),
  (⟨some 46, .convInt .i64 (.tmp 45), none⟩, none),
  (⟨some 47, .bin .add none (.tmp 35) (.tmp 46), none⟩, none),
  (⟨some 48, .bin .and none (.tmp 47) (.const (I 255)), none⟩, none),
  (⟨some 3, .mov (.tmp 48), none⟩, none)]) (
 .ops [⟨some 49, .mov (.tmp 0), none⟩,
  ⟨some 50, .mov (.tmp 0), none⟩,
  ⟨some 51, .nilChk (.tmp 50), none⟩,
  ⟨some 52, .fieldAddr 1 (.tmp 51), none⟩,
  ⟨some 53, .load false 1 (.tmp 52), none⟩,
  ⟨some 54, .bin .add none (.tmp 53) (.const (I 1)), none⟩,
  ⟨some 55, .nilChk (.tmp 49), none⟩,
  ⟨some 56, .fieldAddr 1 (.tmp 55), none⟩,
  ⟨none, .store 1 (.tmp 56) (.tmp 54), none⟩])) (
 .skip))) (
 .seq (.ops [⟨some 57, .mov (.tmp 3), none⟩,
  ⟨some 2, .mov (.tmp 57), none⟩]) (
 .ret))))),
 58, [.tmp 2]⟩

def g_spec_CommandText : SFn := ⟨.seq (.ops [⟨some 1, .box (.tmp 0), none⟩,
  ⟨some 2, .mov (.const E), none⟩,
  ⟨some 3, .mov (.const (.bool false)), none⟩]) (
 .seq (.seq (.ops [⟨some 4, .load true 6 (.tmp 1), none⟩,
  ⟨some 5, .call n_spec_CommandOk [(.tmp 4)], none⟩,
  ⟨some 6, .un .not (.tmp 5), none⟩]) (
 .cond (.tmp 6) (.seq (.ops [⟨some 2, .mov (.const E), none⟩,
  ⟨some 3, .mov (.const (.bool false)), none⟩]) (
 .ret)) (
 .skip))) (
 .seq (.draw [(⟨some 7, .fieldAddr 0 (.tmp 1), none⟩, none),
  (⟨some 8, .load false 1 (.tmp 7), none⟩, some (1, [], [])),
  (⟨some 9, .convInt .u8 (.tmp 8), none⟩, none),
  (⟨some 10, .arr 1 [(.int .u8 0)] 1 [(0, 1, (.tmp 9))], none⟩, some (3, [1], [])),
  (⟨some 11, .convB2S (.tmp 10), none⟩, some (4, [3, 1], [])),
  (⟨some 12, .fieldAddr 1 (.tmp 1), none⟩, none),
  (⟨some 13, .load false 1 (.tmp 12), none⟩, some (6, [], [4, 3, 1])),
  (⟨some 14, .call n_spec_l01Var [(.tmp 13)], none⟩, some (7, [6], [4, 3, 1])),
  (⟨some 15, .bin .add none (.tmp 11) (.tmp 14), none⟩, none),
  (⟨some 16, .fieldAddr 2 (.tmp 1), none⟩, none),
  (⟨some 17, .load false 1 (.tmp 16), none⟩, some (10, [], [7, 6, 4, 3, 1])),
  (⟨some 18, .call n_spec_l01Var [(.tmp 17)], none⟩, some (11, [10, 7, 6], [4, 3, 1])),
  (⟨some 19, .bin .add none (.tmp 15) (.tmp 18), none⟩, none),
  (⟨some 20, .fieldAddr 3 (.tmp 1), none⟩, none),
  (⟨some 21, .load false 1 (.tmp 20), none⟩, some (14, [], [11, 10, 7, 6, 4, 3, 1])),
  (⟨some 22, .call n_spec_l16Short [(.tmp 21)], none⟩, some (15, [14, 11, 10, 7, 6], [4, 3, 1])),
  (⟨some 23, .bin .add none (.tmp 19) (.tmp 22), none⟩, none),
  (⟨some 24, .fieldAddr 4 (.tmp 1), none⟩, none),
  (⟨some 25, .load false 1 (.tmp 24), none⟩, some (18, [], [15, 14, 11, 10, 7, 6, 4, 3, 1])),
  (⟨some 26, .call n_spec_l16Short [(.tmp 25)], none⟩, some (19, [18, 15, 14, 11, 10, 7, 6], [4, 3, 1])),
  (⟨some 27, .bin .add none (.tmp 23) (.tmp 26), none⟩, none),
  (⟨some 28, .fieldAddr 5 (.tmp 1), none⟩, none),
  (⟨some 29, .load false 1 (.tmp 28), none⟩, some (22, [], [19, 18, 15, 14, 11, 10, 7, 6, 4, 3, 1])),
  (⟨some 30, .call n_spec_l01Var [(.tmp 29)], none⟩, some (23, [22, 19, 18, 15, 14, 11, 10, 7, 6], [4, 3, 1])),
  (⟨some 31, .bin .add none (.tmp 27) (.tmp 30), none⟩, none),
  (⟨some 2, .mov (.tmp 31), none⟩, none),
  (⟨some 3, .mov (.const (.bool true)), none⟩, none)]) (
 .ret))),
 32, [.tmp 2, .tmp 3]⟩

def g_spec_l16Right : SFn := ⟨.seq (.ops [⟨some 2, .new [(I 0), (I 0), (I 0), E, E, (I 0)], none⟩]) (
 .seq (.ops [⟨some 5, .call n_spec_KeepNew [], none⟩,
  ⟨some 3, .new [(.slice none 0 0), (.slice none 0 0)], none⟩,
  ⟨none, .store 2 (.tmp 3) (.tmp 5), none⟩]) (
 .seq (.ops [⟨some 6, .mov (.tmp 0), none⟩,
  ⟨some 7, .call n_spec_l01Below [(.tmp 6), (.const (I 5))], none⟩,
  ⟨some 8, .bin .add none (.const (I 1)) (.tmp 7), none⟩,
  ⟨some 9, .mov (.tmp 0), none⟩,
  ⟨some 10, .call n_spec_l01Below [(.tmp 9), (.const (I 4))], none⟩,
  ⟨some 11, .build [(I 0), (I 0), E] [(0, 1, (.tmp 8)), (1, 1, (.tmp 10))], none⟩,
  ⟨some 12, .arr 3 [(I 0), (I 0), E] 1 [(0, 3, (.tmp 11))], none⟩,
  ⟨some 13, .fieldAddr 0 (.tmp 3), none⟩,
  ⟨none, .store 1 (.tmp 13) (.tmp 12), none⟩]) (
 .seq (.ops [⟨some 14, .mov (.tmp 0), none⟩,
  ⟨some 15, .load true 2 (.tmp 3), none⟩,
  ⟨some 16, .call n_spec_l15Command [(.tmp 14), (.tmp 15)], none⟩,
  ⟨some 4, .new [(I 0), (I 0), (I 0), E, E, (I 0)], none⟩,
  ⟨none, .store 6 (.tmp 4) (.tmp 16), none⟩]) (
 .seq (.seq (.ops [⟨some 17, .load true 6 (.tmp 4), none⟩,
  ⟨some 18, .call n_spec_CommandOk [(.tmp 17)], none⟩,
  ⟨some 19, .un .not (.tmp 18), none⟩]) (
 .cond (.tmp 19) (.seq (.ops [⟨some 20, .build [(I 0), (I 0), (I 0), E, E, (I 0)] [(0, 1, (.const (I 3))), (1, 1, (.const (I 1))), (2, 1, (.const (I 1))), (3, 1, (.const (T [97])))], none⟩,
  ⟨none, .store 6 (.tmp 2) (.tmp 20), none⟩]) (
 .ret)) (
 .skip))) (
 .seq (.ops [⟨some 21, .load true 6 (.tmp 4), none⟩,
  ⟨none, .store 6 (.tmp 2) (.tmp 21), none⟩]) (
 .ret)))))),
 22, [.cell true 6 2]⟩

def g_spec_CommandOk : SFn := ⟨.seq (.ops [⟨some 1, .box (.tmp 0), none⟩,
  ⟨some 2, .mov (.const (.bool false)), none⟩]) (
 .seq (.seq (.ops [⟨some 3, .fieldAddr 1 (.tmp 1), none⟩,
  ⟨some 4, .load false 1 (.tmp 3), none⟩,
  ⟨some 5, .call n_spec_l01In [(.tmp 4), (.const (I 0)), (.const (I 1000000))], none⟩,
  ⟨some 6, .un .not (.tmp 5), none⟩,
  ⟨some 7, .mov (.tmp 6), none⟩,
  ⟨some 8, .fieldAddr 2 (.tmp 1), some (7, false)⟩,
  ⟨some 9, .load false 1 (.tmp 8), some (7, false)⟩,
  ⟨some 10, .call n_spec_l01In [(.tmp 9), (.const (I 0)), (.const (I 1000000))], some (7, false)⟩,
  ⟨some 11, .un .not (.tmp 10), some (7, false)⟩,
  ⟨some 12, .pick (.tmp 7) (.const (.bool true)) (.tmp 11), none⟩,
  ⟨some 13, .mov (.tmp 12), none⟩,
  ⟨some 14, .fieldAddr 0 (.tmp 1), some (13, false)⟩,
  ⟨some 15, .load false 1 (.tmp 14), some (13, false)⟩,
  ⟨some 16, .call n_spec_l01In [(.tmp 15), (.const (I 1)), (.const (I 5))], some (13, false)⟩,
  ⟨some 17, .un .not (.tmp 16), some (13, false)⟩,
  ⟨some 18, .pick (.tmp 13) (.const (.bool true)) (.tmp 17), none⟩]) (
 .cond (.tmp 18) (.seq (.ops [⟨some 2, .mov (.const (.bool false)), none⟩]) (
 .ret)) (
 .skip))) (
 .seq (.seq (.ops [⟨some 19, .fieldAddr 0 (.tmp 1), none⟩,
  ⟨some 20, .load false 1 (.tmp 19), none⟩,
  ⟨some 21, .bin .eql none (.tmp 20) (.const (I 1)), none⟩]) (
 .cond (.tmp 21) (.seq (.ops [⟨some 22, .fieldAddr 1 (.tmp 1), none⟩,
  ⟨some 23, .load false 1 (.tmp 22), none⟩,
  ⟨some 24, .bin .eql none (.tmp 23) (.const (I 0)), none⟩,
  ⟨some 25, .mov (.tmp 24), none⟩,
  ⟨some 26, .fieldAddr 2 (.tmp 1), some (25, true)⟩,
  ⟨some 27, .load false 1 (.tmp 26), some (25, true)⟩,
  ⟨some 28, .bin .eql none (.tmp 27) (.const (I 0)), some (25, true)⟩,
  ⟨some 29, .pick (.tmp 25) (.tmp 28) (.const (.bool false)), none⟩,
  ⟨some 30, .mov (.tmp 29), none⟩,
  ⟨some 31, .fieldAddr 3 (.tmp 1), some (30, true)⟩,
  ⟨some 32, .load false 1 (.tmp 31), some (30, true)⟩,
  ⟨some 33, .bin .eql none (.tmp 32) (.const E), some (30, true)⟩,
  ⟨some 34, .pick (.tmp 30) (.tmp 33) (.const (.bool false)), none⟩,
  ⟨some 35, .mov (.tmp 34), none⟩,
  ⟨some 36, .fieldAddr 4 (.tmp 1), some (35, true)⟩,
  ⟨some 37, .load false 1 (.tmp 36), some (35, true)⟩,
  ⟨some 38, .bin .eql none (.tmp 37) (.const E), some (35, true)⟩,
  ⟨some 39, .pick (.tmp 35) (.tmp 38) (.const (.bool false)), none⟩,
  ⟨some 40, .mov (.tmp 39), none⟩,
  ⟨some 41, .fieldAddr 5 (.tmp 1), some (40, true)⟩,
  ⟨some 42, .load false 1 (.tmp 41), some (40, true)⟩,
  ⟨some 43, .bin .eql none (.tmp 42) (.const (I 0)), some (40, true)⟩,
  ⟨some 44, .pick (.tmp 40) (.tmp 43) (.const (.bool false)), none⟩,
  ⟨some 2, .mov (.tmp 44), none⟩]) (
 .ret)) (
 .skip))) (
 .seq (.seq (.ops [⟨some 45, .fieldAddr 3 (.tmp 1), none⟩,
  ⟨some 46, .load false 1 (.tmp 45), none⟩,
  ⟨some 47, .len true (.tmp 46), none⟩,
  ⟨some 48, .call n_spec_l01In [(.tmp 47), (.const (I 1)), (.const (I 8))], none⟩,
  ⟨some 49, .un .not (.tmp 48), none⟩,
  ⟨some 50, .mov (.tmp 49), none⟩,
  ⟨some 51, .fieldAddr 4 (.tmp 1), some (50, false)⟩,
  ⟨some 52, .load false 1 (.tmp 51), some (50, false)⟩,
  ⟨some 53, .len true (.tmp 52), some (50, false)⟩,
  ⟨some 54, .bin .gtr none (.tmp 53) (.const (I 20)), some (50, false)⟩,
  ⟨some 55, .pick (.tmp 50) (.const (.bool true)) (.tmp 54), none⟩]) (
 .cond (.tmp 55) (.seq (.ops [⟨some 2, .mov (.const (.bool false)), none⟩]) (
 .ret)) (
 .skip))) (
 .seq (.seq (.ops [⟨some 56, .fieldAddr 0 (.tmp 1), none⟩,
  ⟨some 57, .load false 1 (.tmp 56), none⟩]) (
 .block 0 (.seq (.ops [⟨some 59, .bin .eql none (.tmp 57) (.const (I 2)), none⟩,
  ⟨some 58, .mov (.tmp 59), none⟩]) (
 .cond (.tmp 58) (.seq (.ops [⟨some 60, .fieldAddr 5 (.tmp 1), none⟩,
  ⟨some 61, .load false 1 (.tmp 60), none⟩,
  ⟨some 62, .bin .eql none (.tmp 61) (.const (I 0)), none⟩,
  ⟨some 2, .mov (.tmp 62), none⟩]) (
 .ret)) (
 .seq (.ops [⟨some 64, .bin .eql none (.tmp 57) (.const (I 5)), none⟩,
  ⟨some 63, .mov (.tmp 64), none⟩]) (
 .cond (.tmp 63) (.seq (.ops [⟨some 65, .fieldAddr 5 (.tmp 1), none⟩,
  ⟨some 66, .load false 1 (.tmp 65), none⟩,
  ⟨some 67, .call n_spec_l01In [(.tmp 66), (.const (I 1)), (.const (I 1000000000))], none⟩,
  ⟨some 2, .mov (.tmp 67), none⟩]) (
 .ret)) (
 .skip))))))) (
 .seq (.ops [⟨some 68, .fieldAddr 4 (.tmp 1), none⟩,
  ⟨some 69, .load false 1 (.tmp 68), none⟩,
  ⟨some 70, .bin .eql none (.tmp 69) (.const E), none⟩,
  ⟨some 71, .mov (.tmp 70), none⟩,
  ⟨some 72, .fieldAddr 5 (.tmp 1), some (71, true)⟩,
  ⟨some 73, .load false 1 (.tmp 72), some (71, true)⟩,
  ⟨some 74, .bin .eql none (.tmp 73) (.const (I 0)), some (71, true)⟩,
  ⟨some 75, .pick (.tmp 71) (.tmp 74) (.const (.bool false)), none⟩,
  ⟨some 2, .mov (.tmp 75), none⟩]) (
 .ret)))))),
 76, [.tmp 2]⟩

def g_spec_l16Short : SFn := ⟨.seq (.ops [⟨some 2, .mov (.const E), none⟩]) (
 .seq (.ops [⟨some 3, .mov (.tmp 0), none⟩,
  ⟨some 4, .len true (.tmp 3), none⟩,
  ⟨some 5, .call n_spec_l01Var [(.tmp 4)], none⟩,
  ⟨some 6, .mov (.tmp 0), none⟩,
  ⟨some 7, .bin .add none (.tmp 5) (.tmp 6), none⟩,
  ⟨some 2, .mov (.tmp 7), none⟩]) (
 .ret)),
 8, [.tmp 2]⟩

def g_spec_KeepNew : SFn := ⟨.seq (.ops [⟨some 0, .new [(.slice none 0 0), (.slice none 0 0)], none⟩]) (
 .seq (.ops [⟨some 1, .build [E, E, (I 0)] [(0, 1, (.const (T [114, 111, 111, 116]))), (2, 1, (.const (I 1)))], none⟩,
  ⟨some 2, .arr 3 [E, E, (I 0)] 1 [(0, 3, (.tmp 1))], none⟩,
  ⟨some 3, .build [(.slice none 0 0), (.slice none 0 0)] [(1, 1, (.tmp 2))], none⟩,
  ⟨none, .store 2 (.tmp 0) (.tmp 3), none⟩]) (
 .ret)),
 4, [.cell true 2 0]⟩

def g_spec_l15Command : SFn := ⟨.seq (.ops [⟨some 3, .box (.tmp 1), none⟩,
  ⟨some 4, .new [(I 0), (I 0), (I 0), E, E, (I 0)], none⟩]) (
 .seq (.seq (.ops [⟨some 7, .fieldAddr 0 (.tmp 3), none⟩,
  ⟨some 8, .load false 1 (.tmp 7), none⟩,
  ⟨some 9, .len false (.tmp 8), none⟩,
  ⟨some 10, .bin .eql none (.tmp 9) (.const (I 0)), none⟩,
  ⟨some 11, .mov (.tmp 10), none⟩,
  ⟨some 12, .mov (.tmp 0), some (11, false)⟩,
  ⟨some 13, .call n_spec_l01Once [(.tmp 12), (.const (I 16))], some (11, false)⟩,
  ⟨some 14, .pick (.tmp 11) (.const (.bool true)) (.tmp 13), none⟩]) (
 .cond (.tmp 14) (.seq (.ops [⟨some 15, .build [(I 0), (I 0), (I 0), E, E, (I 0)] [(0, 1, (.const (I 1)))], none⟩,
  ⟨none, .store 6 (.tmp 4) (.tmp 15), none⟩]) (
 .ret)) (
 .skip))) (
 .seq (.ops [⟨some 16, .mov (.tmp 0), none⟩,
  ⟨some 17, .load true 2 (.tmp 3), none⟩,
  ⟨some 18, .call n_spec_l15Of [(.tmp 16), (.tmp 17)], none⟩,
  ⟨some 5, .new [(I 0), (I 0), (I 0), E, E, (I 0)], none⟩,
  ⟨none, .store 6 (.tmp 5) (.tmp 18), none⟩]) (
 .seq (.ops [⟨some 19, .fieldAddr 0 (.tmp 3), none⟩,
  ⟨some 20, .load false 1 (.tmp 19), none⟩,
  ⟨some 21, .fieldAddr 0 (.tmp 3), none⟩,
  ⟨some 22, .load false 1 (.tmp 21), none⟩,
  ⟨some 23, .len false (.tmp 22), none⟩,
  ⟨some 24, .bin .sub none (.tmp 23) (.const (I 1)), none⟩,
  ⟨some 25, .idxAddr 3 (.tmp 20) (.tmp 24), none⟩,
  ⟨some 26, .load true 3 (.tmp 25), none⟩,
  ⟨some 6, .new [(I 0), (I 0), E], none⟩,
  ⟨none, .store 3 (.tmp 6) (.tmp 26), none⟩]) (
 .seq (.seq (.ops [⟨some 27, .mov (.tmp 0), none⟩,
  ⟨some 28, .call n_spec_l01Once [(.tmp 27), (.const (I 4))], none⟩]) (
 .cond (.tmp 28) (.draw [(⟨some 29, .fieldAddr 0 (.tmp 3), none⟩, none),
  (⟨some 30, .load false 1 (.tmp 29), none⟩, some (1, [], [])),
  (⟨some 31, .mov (.tmp 0), none⟩, none),
  (⟨some 32, .fieldAddr 0 (.tmp 3), none⟩, none),
  (⟨some 33, .load false 1 (.tmp 32), none⟩, some (4, [], [1])),
  (⟨some 34, .len false (.tmp 33), none⟩, none),
  (⟨some 35, .call n_spec_l01Below [(.tmp 31), (.tmp 34)], none⟩, some (6, [4], [1])),
  (⟨some 36, .idxAddr 3 (.tmp 30) (.tmp 35), none⟩, none),
  (⟨some 37, .load true 3 (.tmp 36), none⟩, some (8, [6, 4, 1], [])),
  (⟨none, .store 3 (.tmp 6) (.tmp 37), none⟩, some (9, [8, 6, 4, 1], []))]) (
 .skip))) (
 .seq (.ops [⟨some 38, .fieldAddr 0 (.tmp 6), none⟩,
  ⟨some 39, .load false 1 (.tmp 38), none⟩,
  ⟨some 40, .fieldAddr 1 (.tmp 5), none⟩,
  ⟨none, .store 1 (.tmp 40) (.tmp 39), none⟩]) (
 .seq (.ops [⟨some 41, .fieldAddr 1 (.tmp 6), none⟩,
  ⟨some 42, .load false 1 (.tmp 41), none⟩,
  ⟨some 43, .bin .add none (.tmp 42) (.const (I 1)), none⟩,
  ⟨some 44, .fieldAddr 2 (.tmp 5), none⟩,
  ⟨none, .store 1 (.tmp 44) (.tmp 43), none⟩]) (
 .seq (.seq (.ops [⟨some 45, .mov (.tmp 0), none⟩,
  ⟨some 46, .call n_spec_l01Below [(.tmp 45), (.const (I 16))], none⟩]) (
 .block 0 (.seq (.ops [⟨some 48, .bin .eql none (.tmp 46) (.const (I 0)), none⟩,
  ⟨some 47, .mov (.tmp 48), none⟩]) (
 .cond (.tmp 47) (.ops [⟨some 49, .fieldAddr 1 (.tmp 6), none⟩,
  ⟨some 50, .load false 1 (.tmp 49), none⟩,
  ⟨some 51, .fieldAddr 2 (.tmp 5), none⟩,
  ⟨none, .store 1 (.tmp 51) (.tmp 50), none⟩]) (
 .seq (.ops [⟨some 53, .bin .eql none (.tmp 46) (.const (I 1)), none⟩,
  ⟨some 52, .mov (.tmp 53), none⟩]) (
 .cond (.tmp 52) (.ops [⟨some 54, .mov (.tmp 0), none⟩,
  ⟨some 55, .call n_spec_l01Below [(.tmp 54), (.const (I 4))], none⟩,
  ⟨some 56, .fieldAddr 2 (.tmp 5), none⟩,
  ⟨none, .store 1 (.tmp 56) (.tmp 55), none⟩]) (
 .seq (.ops [⟨some 58, .bin .eql none (.tmp 46) (.const (I 2)), none⟩,
  ⟨some 57, .mov (.tmp 58), none⟩]) (
 .cond (.tmp 57) (.ops [⟨some 59, .mov (.tmp 0), none⟩,
  ⟨some 60, .call n_spec_l01Below [(.tmp 59), (.const (I 9))], none⟩,
  ⟨some 61, .fieldAddr 1 (.tmp 5), none⟩,
  ⟨none, .store 1 (.tmp 61) (.tmp 60), none⟩]) (
 .skip))))))))) (
 .seq (.ops [⟨some 62, .load true 6 (.tmp 5), none⟩,
  ⟨none, .store 6 (.tmp 4) (.tmp 62), none⟩]) (
 .ret))))))))),
 63, [.cell true 6 4]⟩

def g_spec_l15Of : SFn := ⟨.seq (.ops [⟨some 3, .box (.tmp 1), none⟩,
  ⟨some 4, .new [(I 0), (I 0), (I 0), E, E, (I 0)], none⟩]) (
 .seq (.ops [⟨some 8, .mov (.tmp 0), none⟩,
  ⟨some 9, .arr 1 [(I 0)] 8 [(0, 1, (.const (I 2))), (1, 1, (.const (I 2))), (2, 1, (.const (I 2))), (3, 1, (.const (I 3))), (4, 1, (.const (I 3))), (5, 1, (.const (I 4))), (6, 1, (.const (I 5))), (7, 1, (.const (I 5)))], none⟩,
  ⟨some 10, .call n_spec_l01PickInt [(.tmp 8), (.tmp 9)], none⟩,
  ⟨some 11, .mov (.tmp 0), none⟩,
  ⟨some 12, .arr 1 [E] 5 [(0, 1, (.const (T [97]))), (1, 1, (.const (T [98]))), (2, 1, (.const (T [99]))), (3, 1, (.const (T [114, 111, 111, 116]))), (4, 1, (.const (T [120, 49])))], none⟩,
  ⟨some 13, .call n_spec_l01Pick [(.tmp 11), (.tmp 12)], none⟩,
  ⟨some 14, .build [(I 0), (I 0), (I 0), E, E, (I 0)] [(0, 1, (.tmp 10)), (3, 1, (.tmp 13))], none⟩,
  ⟨some 5, .new [(I 0), (I 0), (I 0), E, E, (I 0)], none⟩,
  ⟨none, .store 6 (.tmp 5) (.tmp 14), none⟩]) (
 .seq (.ops [⟨some 16, .load true 2 (.tmp 3), none⟩,
  ⟨some 17, .fieldAddr 3 (.tmp 5), none⟩,
  ⟨some 18, .load false 1 (.tmp 17), none⟩,
  ⟨some 19, .call n_spec_ItemOf [(.tmp 16), (.tmp 18)], none⟩,
  ⟨some 15, .mov (.tmp 19), none⟩,
  ⟨some 20, .extract 0 (.tmp 15), none⟩,
  ⟨some 21, .extract 1 (.tmp 15), none⟩,
  ⟨some 6, .new [E, E, (I 0)], none⟩,
  ⟨none, .store 3 (.tmp 6) (.tmp 20), none⟩,
  ⟨some 7, .mov (.tmp 21), none⟩]) (
 .seq (.seq (.ops [⟨some 22, .fieldAddr 0 (.tmp 5), none⟩,
  ⟨some 23, .load false 1 (.tmp 22), none⟩,
  ⟨some 24, .bin .eql none (.tmp 23) (.const (I 2)), none⟩,
  ⟨some 25, .mov (.tmp 24), none⟩,
  ⟨some 26, .fieldAddr 0 (.tmp 5), some (25, false)⟩,
  ⟨some 27, .load false 1 (.tmp 26), some (25, false)⟩,
  ⟨some 28, .bin .eql none (.tmp 27) (.const (I 5)), some (25, false)⟩,
  ⟨some 29, .pick (.tmp 25) (.const (.bool true)) (.tmp 28), none⟩]) (
 .cond (.tmp 29) (.ops [⟨some 30, .mov (.tmp 0), none⟩,
  ⟨some 31, .arr 1 [E] 4 [(0, 1, (.const E)), (1, 1, (.const (T [49]))), (2, 1, (.const (T [116, 119, 111]))), (3, 1, (.const (T [116, 104, 114, 101, 101])))], none⟩,
  ⟨some 32, .call n_spec_l01Pick [(.tmp 30), (.tmp 31)], none⟩,
  ⟨some 33, .fieldAddr 4 (.tmp 5), none⟩,
  ⟨none, .store 1 (.tmp 33) (.tmp 32), none⟩]) (
 .skip))) (
 .seq (.seq (.ops [⟨some 34, .fieldAddr 0 (.tmp 5), none⟩,
  ⟨some 35, .load false 1 (.tmp 34), none⟩,
  ⟨some 36, .bin .eql none (.tmp 35) (.const (I 5)), none⟩]) (
 .cond (.tmp 36) (.seq (.ops [⟨some 37, .mov (.tmp 0), none⟩,
  ⟨some 38, .call n_spec_l01Below [(.tmp 37), (.const (I 20))], none⟩,
  ⟨some 39, .bin .add none (.const (I 1)) (.tmp 38), none⟩,
  ⟨some 40, .fieldAddr 5 (.tmp 5), none⟩,
  ⟨none, .store 1 (.tmp 40) (.tmp 39), none⟩]) (
 .seq (.ops [⟨some 41, .mov (.tmp 7), none⟩,
  ⟨some 42, .mov (.tmp 41), none⟩,
  ⟨some 43, .mov (.tmp 0), some (42, true)⟩,
  ⟨some 44, .call n_spec_l01Once [(.tmp 43), (.const (I 3))], some (42, true)⟩,
  ⟨some 45, .un .not (.tmp 44), some (42, true)⟩,
  ⟨some 46, .pick (.tmp 42) (.tmp 45) (.const (.bool false)), none⟩]) (
 .cond (.tmp 46) (.ops [⟨some 47, .fieldAddr 2 (.tmp 6), none⟩,
  ⟨some 48, .load false 1 (.tmp 47), none⟩,
  ⟨some 49, .fieldAddr 5 (.tmp 5), none⟩,
  ⟨none, .store 1 (.tmp 49) (.tmp 48), none⟩]) (
 .skip)))) (
 .skip))) (
 .seq (.ops [⟨some 50, .load true 6 (.tmp 5), none⟩,
  ⟨none, .store 6 (.tmp 4) (.tmp 50), none⟩]) (
 .ret)))))),
 51, [.cell true 6 4]⟩

def g_spec_l01Pick : SFn := ⟨.seq (.ops [⟨some 4, .mov (.const E), none⟩]) (
 .seq (.ops [⟨some 5, .mov (.tmp 1), none⟩,
  ⟨some 6, .mov (.tmp 0), none⟩,
  ⟨some 7, .mov (.tmp 1), none⟩,
  ⟨some 8, .len false (.tmp 7), none⟩,
  ⟨some 9, .call n_spec_l01Below [(.tmp 6), (.tmp 8)], none⟩,
  ⟨some 10, .idxAddr 1 (.tmp 5) (.tmp 9), none⟩,
  ⟨some 11, .load false 1 (.tmp 10), none⟩,
  ⟨some 4, .mov (.tmp 11), none⟩]) (
 .ret)),
 12, [.tmp 4]⟩

def g_spec_ItemOf_L0 : SC := .seq (.seq (.ops [⟨some 7, .mov (.tmp 6), none⟩,
  ⟨some 8, .fieldAddr 1 (.tmp 2), none⟩,
  ⟨some 9, .load false 1 (.tmp 8), none⟩,
  ⟨some 10, .len false (.tmp 9), none⟩,
  ⟨some 11, .bin .lss none (.tmp 7) (.tmp 10), none⟩]) (
 .cond (.tmp 11) (.skip) (
 .exit 0))) (
 .seq (.block 1 (.seq (.ops [⟨some 14, .fieldAddr 1 (.tmp 2), none⟩,
  ⟨some 15, .load false 1 (.tmp 14), none⟩,
  ⟨some 16, .mov (.tmp 6), none⟩,
  ⟨some 17, .idxAddr 3 (.tmp 15) (.tmp 16), none⟩,
  ⟨some 18, .fieldAddr 0 (.tmp 17), none⟩,
  ⟨some 19, .load false 1 (.tmp 18), none⟩,
  ⟨some 20, .mov (.tmp 1), none⟩,
  ⟨some 21, .bin .eql none (.tmp 19) (.tmp 20), none⟩]) (
 .cond (.tmp 21) (.seq (.ops [⟨some 22, .fieldAddr 1 (.tmp 2), none⟩,
  ⟨some 23, .load false 1 (.tmp 22), none⟩,
  ⟨some 24, .mov (.tmp 6), none⟩,
  ⟨some 25, .idxAddr 3 (.tmp 23) (.tmp 24), none⟩,
  ⟨some 26, .load true 3 (.tmp 25), none⟩,
  ⟨none, .store 3 (.tmp 4) (.tmp 26), none⟩,
  ⟨some 5, .mov (.const (.bool true)), none⟩]) (
 .ret)) (
 .skip)))) (
 .ops [⟨some 12, .mov (.tmp 6), none⟩,
  ⟨some 13, .bin .add none (.tmp 12) (.const (I 1)), none⟩,
  ⟨some 6, .mov (.tmp 13), none⟩]))

def g_spec_ItemOf : SFn := ⟨.seq (.ops [⟨some 2, .box (.tmp 0), none⟩,
  ⟨some 4, .new [E, E, (I 0)], none⟩,
  ⟨some 5, .mov (.const (.bool false)), none⟩]) (
 .seq (.seq (.ops [⟨some 6, .mov (.const (I 0)), none⟩]) (
 .block 0 (.loop g_spec_ItemOf_L0))) (
 .seq (.ops [⟨some 27, .build [E, E, (I 0)] [], none⟩,
  ⟨none, .store 3 (.tmp 4) (.tmp 27), none⟩,
  ⟨some 5, .mov (.const (.bool false)), none⟩]) (
 .ret))),
 28, [.cell true 3 4, .tmp 5]⟩

end Go.Proofs.Ytfcglkajekohiaa
