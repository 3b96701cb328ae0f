/- The functions of the plain machine are the program's. -/
import Derived.Test.YtfcglkajekohiaaDefsA
import Derived.KernelRfl
import Derived.Test.YtfcglkajekohiaaProg
set_option linter.unusedSimpArgs false
set_option linter.unusedVariables false
namespace Go.Proofs.Ytfcglkajekohiaa
open Go Go.Proofs.Ytfcglkajekohiaa.AM
def served : List Nat := [5, 6, 11, 14, 15, 18, 19, 20, 21, 22, 23, 24, 25, 26, 27, 28, 29, 33, 43, 44, 45, 46, 47, 48, 49, 50, 51, 52, 53, 54, 55, 56, 57, 58, 59, 60, 61, 62, 63, 64, 65, 66, 67, 68, 69, 70, 71, 72, 73, 74, 75, 79, 82, 83, 84, 85, 86, 87, 88, 89, 90, 91, 92, 93, 94, 95, 96, 97, 98, 99, 100, 101, 102, 103, 106, 107, 108, 109, 110, 111, 112, 113, 114, 115, 116, 117, 118]
noncomputable def tbl (prim : Nat → List Value → Option Value) : Table := ⟨fun f => if served.contains f then lowFn Try.prog f else none, prim⟩
section
variable (prim : Nat → List Value → Option Value)
theorem s_laws_FnExactDecode : ((tbl prim).fn n_laws_FnExactDecode).map slimFn = some g_laws_FnExactDecode := by kernel_rfl
theorem s_laws_FnMessages : ((tbl prim).fn n_laws_FnMessages).map slimFn = some g_laws_FnMessages := by kernel_rfl
theorem s_laws_eqIntS : ((tbl prim).fn n_laws_eqIntS).map slimFn = some g_laws_eqIntS := by kernel_rfl
theorem s_laws_markIntS : ((tbl prim).fn n_laws_markIntS).map slimFn = some g_laws_markIntS := by kernel_rfl
theorem s_laws_heldIntS : ((tbl prim).fn n_laws_heldIntS).map slimFn = some g_laws_heldIntS := by kernel_rfl
theorem s_spec_Decode : ((tbl prim).fn n_spec_Decode).map slimFn = some g_spec_Decode := by kernel_rfl
theorem s_impl_Decode : ((tbl prim).fn n_impl_Decode).map slimFn = some g_impl_Decode := by kernel_rfl
theorem s_laws_eqMessage : ((tbl prim).fn n_laws_eqMessage).map slimFn = some g_laws_eqMessage := by kernel_rfl
theorem s_laws_markMessage : ((tbl prim).fn n_laws_markMessage).map slimFn = some g_laws_markMessage := by kernel_rfl
theorem s_laws_heldMessage : ((tbl prim).fn n_laws_heldMessage).map slimFn = some g_laws_heldMessage := by kernel_rfl
theorem s_laws_big : ((tbl prim).fn n_laws_big).map slimFn = some g_laws_big := by kernel_rfl
theorem s_spec_DrawEncode : ((tbl prim).fn n_spec_DrawEncode).map slimFn = some g_spec_DrawEncode := by kernel_rfl
theorem s_impl_Encode : ((tbl prim).fn n_impl_Encode).map slimFn = some g_impl_Encode := by kernel_rfl
theorem s_spec_MessageOk : ((tbl prim).fn n_spec_MessageOk).map slimFn = some g_spec_MessageOk := by kernel_rfl
theorem s_impl_MessageOk : ((tbl prim).fn n_impl_MessageOk).map slimFn = some g_impl_MessageOk := by kernel_rfl
theorem s_laws_sameMessage : ((tbl prim).fn n_laws_sameMessage).map slimFn = some g_laws_sameMessage := by kernel_rfl
theorem s_spec_DrawDecode : ((tbl prim).fn n_spec_DrawDecode).map slimFn = some g_spec_DrawDecode := by kernel_rfl
theorem s_spec_ReadConf : ((tbl prim).fn n_spec_ReadConf).map slimFn = some g_spec_ReadConf := by kernel_rfl
theorem s_spec_l05Take : ((tbl prim).fn n_spec_l05Take).map slimFn = some g_spec_l05Take := by kernel_rfl
theorem s_spec_l05Var : ((tbl prim).fn n_spec_l05Var).map slimFn = some g_spec_l05Var := by kernel_rfl
theorem s_spec_ReadEntry : ((tbl prim).fn n_spec_ReadEntry).map slimFn = some g_spec_ReadEntry := by kernel_rfl
theorem s_spec_l05ReadShort : ((tbl prim).fn n_spec_l05ReadShort).map slimFn = some g_spec_l05ReadShort := by kernel_rfl
theorem s_spec_Encode : ((tbl prim).fn n_spec_Encode).map slimFn = some g_spec_Encode := by kernel_rfl
theorem s_impl_scan_one : ((tbl prim).fn n_impl_scan_one).map slimFn = some g_impl_scan_one := by kernel_rfl
theorem s_impl_scan_number : ((tbl prim).fn n_impl_scan_number).map slimFn = some g_impl_scan_number := by kernel_rfl
theorem s_impl_scan_sign : ((tbl prim).fn n_impl_scan_sign).map slimFn = some g_impl_scan_sign := by kernel_rfl
theorem s_impl_scan_count : ((tbl prim).fn n_impl_scan_count).map slimFn = some g_impl_scan_count := by kernel_rfl
theorem s_impl_scan_short : ((tbl prim).fn n_impl_scan_short).map slimFn = some g_impl_scan_short := by kernel_rfl
theorem s_impl_ReadEntry : ((tbl prim).fn n_impl_ReadEntry).map slimFn = some g_impl_ReadEntry := by kernel_rfl
theorem s_impl_scan_done : ((tbl prim).fn n_impl_scan_done).map slimFn = some g_impl_scan_done := by kernel_rfl
theorem s_laws_eqEntryS : ((tbl prim).fn n_laws_eqEntryS).map slimFn = some g_laws_eqEntryS := by kernel_rfl
theorem s_laws_markEntryS : ((tbl prim).fn n_laws_markEntryS).map slimFn = some g_laws_markEntryS := by kernel_rfl
theorem s_laws_heldEntryS : ((tbl prim).fn n_laws_heldEntryS).map slimFn = some g_laws_heldEntryS := by kernel_rfl
theorem s_spec_l17Any : ((tbl prim).fn n_spec_l17Any).map slimFn = some g_spec_l17Any := by kernel_rfl
theorem s_spec_l01New : ((tbl prim).fn n_spec_l01New).map slimFn = some g_spec_l01New := by kernel_rfl
theorem s_impl_byteTexts : ((tbl prim).fn n_impl_byteTexts).map slimFn = some g_impl_byteTexts := by kernel_rfl
theorem s_impl_varTexts : ((tbl prim).fn n_impl_varTexts).map slimFn = some g_impl_varTexts := by kernel_rfl
theorem s_impl_flag : ((tbl prim).fn n_impl_flag).map slimFn = some g_impl_flag := by kernel_rfl
theorem s_impl_EntryText : ((tbl prim).fn n_impl_EntryText).map slimFn = some g_impl_EntryText := by kernel_rfl
theorem s_impl_shortTexts : ((tbl prim).fn n_impl_shortTexts).map slimFn = some g_impl_shortTexts := by kernel_rfl
theorem s_spec_l01In : ((tbl prim).fn n_spec_l01In).map slimFn = some g_spec_l01In := by kernel_rfl
theorem s_spec_EntryOk : ((tbl prim).fn n_spec_EntryOk).map slimFn = some g_spec_EntryOk := by kernel_rfl
theorem s_spec_ConfOk : ((tbl prim).fn n_spec_ConfOk).map slimFn = some g_spec_ConfOk := by kernel_rfl
theorem s_impl_within : ((tbl prim).fn n_impl_within).map slimFn = some g_impl_within := by kernel_rfl
theorem s_impl_isNode : ((tbl prim).fn n_impl_isNode).map slimFn = some g_impl_isNode := by kernel_rfl
theorem s_impl_isTerm : ((tbl prim).fn n_impl_isTerm).map slimFn = some g_impl_isTerm := by kernel_rfl
theorem s_impl_EntryOk : ((tbl prim).fn n_impl_EntryOk).map slimFn = some g_impl_EntryOk := by kernel_rfl
theorem s_impl_ConfOk : ((tbl prim).fn n_impl_ConfOk).map slimFn = some g_impl_ConfOk := by kernel_rfl
theorem s_impl_isIndex : ((tbl prim).fn n_impl_isIndex).map slimFn = some g_impl_isIndex := by kernel_rfl
theorem s_laws_sameInts : ((tbl prim).fn n_laws_sameInts).map slimFn = some g_laws_sameInts := by kernel_rfl
theorem s_spec_l02Spoilt : ((tbl prim).fn n_spec_l02Spoilt).map slimFn = some g_spec_l02Spoilt := by kernel_rfl
theorem s_impl_ReadConf : ((tbl prim).fn n_impl_ReadConf).map slimFn = some g_impl_ReadConf := by kernel_rfl
theorem s_spec_ReadVar : ((tbl prim).fn n_spec_ReadVar).map slimFn = some g_spec_ReadVar := by kernel_rfl
theorem s_spec_EntryText : ((tbl prim).fn n_spec_EntryText).map slimFn = some g_spec_EntryText := by kernel_rfl
theorem s_spec_l01Var : ((tbl prim).fn n_spec_l01Var).map slimFn = some g_spec_l01Var := by kernel_rfl
theorem s_spec_l17Flag : ((tbl prim).fn n_spec_l17Flag).map slimFn = some g_spec_l17Flag := by kernel_rfl
theorem s_spec_l05Short : ((tbl prim).fn n_spec_l05Short).map slimFn = some g_spec_l05Short := by kernel_rfl
theorem s_spec_ConfText : ((tbl prim).fn n_spec_ConfText).map slimFn = some g_spec_ConfText := by kernel_rfl
theorem s_impl_ReadVar : ((tbl prim).fn n_impl_ReadVar).map slimFn = some g_impl_ReadVar := by kernel_rfl
theorem s_impl_ReadShort : ((tbl prim).fn n_impl_ReadShort).map slimFn = some g_impl_ReadShort := by kernel_rfl
theorem s_impl_scan_rest : ((tbl prim).fn n_impl_scan_rest).map slimFn = some g_impl_scan_rest := by kernel_rfl
theorem s_laws_eqEntry : ((tbl prim).fn n_laws_eqEntry).map slimFn = some g_laws_eqEntry := by kernel_rfl
theorem s_laws_markText : ((tbl prim).fn n_laws_markText).map slimFn = some g_laws_markText := by kernel_rfl
theorem s_spec_l17Right : ((tbl prim).fn n_spec_l17Right).map slimFn = some g_spec_l17Right := by kernel_rfl
theorem s_spec_l01Below : ((tbl prim).fn n_spec_l01Below).map slimFn = some g_spec_l01Below := by kernel_rfl
theorem s_spec_l01PickInt : ((tbl prim).fn n_spec_l01PickInt).map slimFn = some g_spec_l01PickInt := by kernel_rfl
theorem s_spec_l05Any : ((tbl prim).fn n_spec_l05Any).map slimFn = some g_spec_l05Any := by kernel_rfl
theorem s_spec_l01Long : ((tbl prim).fn n_spec_l01Long).map slimFn = some g_spec_l01Long := by kernel_rfl
theorem s_spec_l05AnyConf : ((tbl prim).fn n_spec_l05AnyConf).map slimFn = some g_spec_l05AnyConf := by kernel_rfl
theorem s_impl_VarText : ((tbl prim).fn n_impl_VarText).map slimFn = some g_impl_VarText := by kernel_rfl
theorem s_impl_ShortText : ((tbl prim).fn n_impl_ShortText).map slimFn = some g_impl_ShortText := by kernel_rfl
theorem s_spec_l05Rise : ((tbl prim).fn n_spec_l05Rise).map slimFn = some g_spec_l05Rise := by kernel_rfl
theorem s_impl_nodesOk : ((tbl prim).fn n_impl_nodesOk).map slimFn = some g_impl_nodesOk := by kernel_rfl
theorem s_spec_l01Text : ((tbl prim).fn n_spec_l01Text).map slimFn = some g_spec_l01Text := by kernel_rfl
theorem s_spec_l01Once : ((tbl prim).fn n_spec_l01Once).map slimFn = some g_spec_l01Once := by kernel_rfl
theorem s_spec_l05Right : ((tbl prim).fn n_spec_l05Right).map slimFn = some g_spec_l05Right := by kernel_rfl
theorem s_spec_l05Conf : ((tbl prim).fn n_spec_l05Conf).map slimFn = some g_spec_l05Conf := by kernel_rfl
theorem s_spec_l01Byte : ((tbl prim).fn n_spec_l01Byte).map slimFn = some g_spec_l01Byte := by kernel_rfl
theorem s_spec_CommandText : ((tbl prim).fn n_spec_CommandText).map slimFn = some g_spec_CommandText := by kernel_rfl
theorem s_spec_l16Right : ((tbl prim).fn n_spec_l16Right).map slimFn = some g_spec_l16Right := by kernel_rfl
theorem s_spec_CommandOk : ((tbl prim).fn n_spec_CommandOk).map slimFn = some g_spec_CommandOk := by kernel_rfl
theorem s_spec_l16Short : ((tbl prim).fn n_spec_l16Short).map slimFn = some g_spec_l16Short := by kernel_rfl
theorem s_spec_KeepNew : ((tbl prim).fn n_spec_KeepNew).map slimFn = some g_spec_KeepNew := by kernel_rfl
theorem s_spec_l15Command : ((tbl prim).fn n_spec_l15Command).map slimFn = some g_spec_l15Command := by kernel_rfl
theorem s_spec_l15Of : ((tbl prim).fn n_spec_l15Of).map slimFn = some g_spec_l15Of := by kernel_rfl
theorem s_spec_l01Pick : ((tbl prim).fn n_spec_l01Pick).map slimFn = some g_spec_l01Pick := by kernel_rfl
theorem s_spec_ItemOf : ((tbl prim).fn n_spec_ItemOf).map slimFn = some g_spec_ItemOf := by kernel_rfl
end
end Go.Proofs.Ytfcglkajekohiaa
