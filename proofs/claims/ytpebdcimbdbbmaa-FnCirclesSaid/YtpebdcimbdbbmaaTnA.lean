/-
  Tenths: the tables joined; the tenths of a product of two eighths. Conditions: those that each theorem names.
-/
import Derived.Test.YtpebdcimbdbbmaaTn1
import Derived.Test.YtpebdcimbdbbmaaTn2
import Derived.Test.YtpebdcimbdbbmaaTn3
import Derived.Test.YtpebdcimbdbbmaaTn4
namespace Go.Proofs.Ytpebdcimbdbbmaa
namespace Flo
open Go
set_option maxRecDepth 100000
theorem ok_j {k N : Nat} {l r : Tr} (h : isN (chk k) N = true) (hl : l.ok = true) (hr : r.ok = true) : (Tr.n k N l r).ok = true := ok_n.2 ⟨isN_is.1 h, hl, hr⟩
def trA : Tr := (.n 1824784519 1256 (.n 812122247 1248 (.n 380633223 1245 (.n 184549511 1243 (.n 90177668 1151 (.n 44564614 1211 tr1 tr2) (.n 140509317 1182 tr3 tr4)) (.n 282067080 1274 (.n 234881156 1153 tr5 tr6) (.n 330825862 1214 tr7 tr8))) (.n 589299844 1156 (.n 484573320 1276 (.n 434110597 1185 tr9 tr10) (.n 536871038 975 tr11 tr12)) (.n 696254597 1187 (.n 645922949 1187 tr13 tr14) (.n 757072005 1188 tr15 tr16)))) (.n 1304428676 1162 (.n 1055916165 1190 (.n 931135621 1189 (.n 872415364 1159 tr17 tr18) (.n 993525895 1250 tr19 tr20)) (.n 1177026694 1221 (.n 1115684998 1221 tr21 tr22) (.n 1241514118 1222 tr23 tr24))) (.n 1558970503 1254 (.n 1429209222 1223 (.n 1367343238 1223 tr25 tr26) (.n 1493172353 1073 tr27 tr28)) (.n 1691353222 1225 (.n 1623195783 1255 tr29 tr30) (.n 1757413509 1196 tr31 tr32))))) (.n 2966945927 1264 (.n 2378170501 1200 (.n 2101870726 1228 (.n 1963458694 1227 (.n 1890320519 1257 tr33 tr34) (.n 2030043266 1107 tr35 tr36)) (.n 2239758466 1109 (.n 2166882438 1228 tr37 tr38) (.n 2311061639 1260 tr39 tr40))) (.n 2669674628 1172 (.n 2521825415 1261 (.n 2449473667 1140 tr41 tr42) (.n 2596274308 1171 tr43 tr44)) (.n 2818572418 1112 (.n 2740453511 1262 tr45 tr46) (.n 2889351303 1263 tr47 tr48)))) (.n 3607101570 1117 (.n 3278635143 1265 (.n 3124232326 1234 (.n 3040870535 1264 tr49 tr50) (.n 3202351238 1235 tr51 tr52)) (.n 3441426564 1176 (.n 3357540484 1176 tr53 tr54) (.n 3519021188 1177 tr55 tr56))) (.n 3943694471 1269 (.n 3771728006 1238 (.n 3688890501 1208 tr57 tr58) (.n 3858759815 1269 tr59 tr60)) (.n 4116709511 1270 (.n 4026531974 1239 tr61 tr62) (.n 4207935621 1210 tr63 tr64))))))
theorem trA_ok : trA.ok = true := (ok_j (by decide +kernel) (ok_j (by decide +kernel) (ok_j (by decide +kernel) (ok_j (by decide +kernel) (ok_j (by decide +kernel) (ok_j (by decide +kernel) tr1_ok tr2_ok) (ok_j (by decide +kernel) tr3_ok tr4_ok)) (ok_j (by decide +kernel) (ok_j (by decide +kernel) tr5_ok tr6_ok) (ok_j (by decide +kernel) tr7_ok tr8_ok))) (ok_j (by decide +kernel) (ok_j (by decide +kernel) (ok_j (by decide +kernel) tr9_ok tr10_ok) (ok_j (by decide +kernel) tr11_ok tr12_ok)) (ok_j (by decide +kernel) (ok_j (by decide +kernel) tr13_ok tr14_ok) (ok_j (by decide +kernel) tr15_ok tr16_ok)))) (ok_j (by decide +kernel) (ok_j (by decide +kernel) (ok_j (by decide +kernel) (ok_j (by decide +kernel) tr17_ok tr18_ok) (ok_j (by decide +kernel) tr19_ok tr20_ok)) (ok_j (by decide +kernel) (ok_j (by decide +kernel) tr21_ok tr22_ok) (ok_j (by decide +kernel) tr23_ok tr24_ok))) (ok_j (by decide +kernel) (ok_j (by decide +kernel) (ok_j (by decide +kernel) tr25_ok tr26_ok) (ok_j (by decide +kernel) tr27_ok tr28_ok)) (ok_j (by decide +kernel) (ok_j (by decide +kernel) tr29_ok tr30_ok) (ok_j (by decide +kernel) tr31_ok tr32_ok))))) (ok_j (by decide +kernel) (ok_j (by decide +kernel) (ok_j (by decide +kernel) (ok_j (by decide +kernel) (ok_j (by decide +kernel) tr33_ok tr34_ok) (ok_j (by decide +kernel) tr35_ok tr36_ok)) (ok_j (by decide +kernel) (ok_j (by decide +kernel) tr37_ok tr38_ok) (ok_j (by decide +kernel) tr39_ok tr40_ok))) (ok_j (by decide +kernel) (ok_j (by decide +kernel) (ok_j (by decide +kernel) tr41_ok tr42_ok) (ok_j (by decide +kernel) tr43_ok tr44_ok)) (ok_j (by decide +kernel) (ok_j (by decide +kernel) tr45_ok tr46_ok) (ok_j (by decide +kernel) tr47_ok tr48_ok)))) (ok_j (by decide +kernel) (ok_j (by decide +kernel) (ok_j (by decide +kernel) (ok_j (by decide +kernel) tr49_ok tr50_ok) (ok_j (by decide +kernel) tr51_ok tr52_ok)) (ok_j (by decide +kernel) (ok_j (by decide +kernel) tr53_ok tr54_ok) (ok_j (by decide +kernel) tr55_ok tr56_ok))) (ok_j (by decide +kernel) (ok_j (by decide +kernel) (ok_j (by decide +kernel) tr57_ok tr58_ok) (ok_j (by decide +kernel) tr59_ok tr60_ok)) (ok_j (by decide +kernel) (ok_j (by decide +kernel) tr61_ok tr62_ok) (ok_j (by decide +kernel) tr63_ok tr64_ok))))))
/-- An eighth, two, four, ..: the bits of (1 + u) / 8. -/
def XQ : List Nat := [1040187392, 1048576000, 1052770304, 1056964608, 1059061760, 1061158912, 1063256064, 1065353216, 1066401792, 1067450368, 1068498944, 1069547520, 1070596096, 1071644672, 1072693248, 1073741824, 1074266112, 1074790400, 1075314688, 1075838976, 1076363264, 1076887552, 1077411840, 1077936128, 1078460416, 1078984704, 1079508992, 1080033280, 1080557568, 1081081856, 1081606144, 1082130432, 1082392576, 1082654720, 1082916864, 1083179008, 1083441152, 1083703296, 1083965440, 1084227584, 1084489728, 1084751872, 1085014016, 1085276160, 1085538304, 1085800448, 1086062592, 1086324736, 1086586880, 1086849024, 1087111168, 1087373312, 1087635456, 1087897600, 1088159744, 1088421888, 1088684032, 1088946176, 1089208320, 1089470464, 1089732608, 1089994752, 1090256896, 1090519040, 1090650112, 1090781184, 1090912256, 1091043328, 1091174400, 1091305472, 1091436544, 1091567616, 1091698688, 1091829760, 1091960832, 1092091904, 1092222976, 1092354048, 1092485120, 1092616192, 1092747264, 1092878336, 1093009408, 1093140480, 1093271552, 1093402624, 1093533696, 1093664768, 1093795840, 1093926912, 1094057984, 1094189056, 1094320128, 1094451200, 1094582272, 1094713344, 1094844416, 1094975488, 1095106560, 1095237632, 1095368704, 1095499776, 1095630848, 1095761920, 1095892992, 1096024064, 1096155136, 1096286208, 1096417280, 1096548352, 1096679424, 1096810496, 1096941568, 1097072640, 1097203712, 1097334784, 1097465856, 1097596928, 1097728000, 1097859072, 1097990144, 1098121216, 1098252288, 1098383360, 1098514432, 1098645504, 1098776576, 1098907648, 1098973184, 1099038720, 1099104256, 1099169792, 1099235328, 1099300864, 1099366400, 1099431936, 1099497472, 1099563008, 1099628544, 1099694080, 1099759616, 1099825152, 1099890688, 1099956224, 1100021760, 1100087296, 1100152832, 1100218368, 1100283904, 1100349440, 1100414976, 1100480512, 1100546048, 1100611584, 1100677120, 1100742656, 1100808192, 1100873728, 1100939264, 1101004800, 1101070336, 1101135872, 1101201408, 1101266944, 1101332480, 1101398016, 1101463552, 1101529088, 1101594624, 1101660160, 1101725696, 1101791232, 1101856768, 1101922304, 1101987840, 1102053376, 1102118912, 1102184448, 1102249984, 1102315520, 1102381056, 1102446592, 1102512128, 1102577664, 1102643200, 1102708736, 1102774272, 1102839808, 1102905344, 1102970880, 1103036416, 1103101952, 1103167488, 1103233024, 1103298560, 1103364096, 1103429632, 1103495168, 1103560704, 1103626240]
abbrev xq (u : Nat) : Nat := XQ.getD u 0
theorem xq_is : ∀ u : Nat, u < 200 → ar .quo .f32 (some (floatOfInt .f32 ((u : Int) + 1))) (some 1090519040) = some (xq u) := by decide +kernel
theorem xq_mem {u : Nat} (h : u < 200) : xq u ∈ XQ := by
  have hl : XQ.length = 200 := rfl
  unfold xq
  rw [List.getD_eq_getElem?_getD, List.getElem?_eq_getElem (by omega)]
  exact List.getElem_mem _
theorem xq_lt : ∀ u : Nat, u < 200 → xq u < 2139095040 := by decide +kernel
/-- The pair's check. -/
def prE (x y : Nat) : Bool :=
  match mul3 x y with
  | none => false
  | some b => match Nat.ble 2139095040 b with
    | true => false
    | false => match trA.at (rot x) with
      | none => false
      | some N => match trA.at (rot y) with
        | none => false
        | some M => match trA.at (rot b) with
          | none => false
          | some L => Nat.ble (Nat.add N M) (Nat.add L 1001) && (Nat.ble (Nat.add L 1000) (Nat.add N (Nat.add M 1)) && (Nat.ble N 5000 && (Nat.ble M 5000 && Nat.ble L 5000)))
theorem pr_ok0 : ∀ u : Nat, u < 10 → XQ.all (prE (xq (u + 0))) = true := by decide +kernel
theorem pr_ok1 : ∀ u : Nat, u < 10 → XQ.all (prE (xq (u + 10))) = true := by decide +kernel
theorem pr_ok2 : ∀ u : Nat, u < 10 → XQ.all (prE (xq (u + 20))) = true := by decide +kernel
theorem pr_ok3 : ∀ u : Nat, u < 10 → XQ.all (prE (xq (u + 30))) = true := by decide +kernel
theorem pr_ok4 : ∀ u : Nat, u < 10 → XQ.all (prE (xq (u + 40))) = true := by decide +kernel
theorem pr_ok5 : ∀ u : Nat, u < 10 → XQ.all (prE (xq (u + 50))) = true := by decide +kernel
theorem pr_ok6 : ∀ u : Nat, u < 10 → XQ.all (prE (xq (u + 60))) = true := by decide +kernel
theorem pr_ok7 : ∀ u : Nat, u < 10 → XQ.all (prE (xq (u + 70))) = true := by decide +kernel
theorem pr_ok8 : ∀ u : Nat, u < 10 → XQ.all (prE (xq (u + 80))) = true := by decide +kernel
theorem pr_ok9 : ∀ u : Nat, u < 10 → XQ.all (prE (xq (u + 90))) = true := by decide +kernel
theorem pr_ok10 : ∀ u : Nat, u < 10 → XQ.all (prE (xq (u + 100))) = true := by decide +kernel
theorem pr_ok11 : ∀ u : Nat, u < 10 → XQ.all (prE (xq (u + 110))) = true := by decide +kernel
theorem pr_ok12 : ∀ u : Nat, u < 10 → XQ.all (prE (xq (u + 120))) = true := by decide +kernel
theorem pr_ok13 : ∀ u : Nat, u < 10 → XQ.all (prE (xq (u + 130))) = true := by decide +kernel
theorem pr_ok14 : ∀ u : Nat, u < 10 → XQ.all (prE (xq (u + 140))) = true := by decide +kernel
theorem pr_ok15 : ∀ u : Nat, u < 10 → XQ.all (prE (xq (u + 150))) = true := by decide +kernel
theorem pr_ok16 : ∀ u : Nat, u < 10 → XQ.all (prE (xq (u + 160))) = true := by decide +kernel
theorem pr_ok17 : ∀ u : Nat, u < 10 → XQ.all (prE (xq (u + 170))) = true := by decide +kernel
theorem pr_ok18 : ∀ u : Nat, u < 10 → XQ.all (prE (xq (u + 180))) = true := by decide +kernel
theorem pr_ok19 : ∀ u : Nat, u < 10 → XQ.all (prE (xq (u + 190))) = true := by decide +kernel
theorem pr_ok (u : Nat) (hu : u < 200) : XQ.all (prE (xq u)) = true := by
  rcases (by omega : u < 10 ∨ (10 ≤ u ∧ u < 20) ∨ (20 ≤ u ∧ u < 30) ∨ (30 ≤ u ∧ u < 40) ∨ (40 ≤ u ∧ u < 50) ∨ (50 ≤ u ∧ u < 60) ∨ (60 ≤ u ∧ u < 70) ∨ (70 ≤ u ∧ u < 80) ∨ (80 ≤ u ∧ u < 90) ∨ (90 ≤ u ∧ u < 100) ∨ (100 ≤ u ∧ u < 110) ∨ (110 ≤ u ∧ u < 120) ∨ (120 ≤ u ∧ u < 130) ∨ (130 ≤ u ∧ u < 140) ∨ (140 ≤ u ∧ u < 150) ∨ (150 ≤ u ∧ u < 160) ∨ (160 ≤ u ∧ u < 170) ∨ (170 ≤ u ∧ u < 180) ∨ (180 ≤ u ∧ u < 190) ∨ (190 ≤ u ∧ u < 200)) with h | h | h | h | h | h | h | h | h | h | h | h | h | h | h | h | h | h | h | h
  · exact pr_ok0 u h
  · have := pr_ok1 (u - 10) (by omega)
    rwa [show u - 10 + 10 = u by omega] at this
  · have := pr_ok2 (u - 20) (by omega)
    rwa [show u - 20 + 20 = u by omega] at this
  · have := pr_ok3 (u - 30) (by omega)
    rwa [show u - 30 + 30 = u by omega] at this
  · have := pr_ok4 (u - 40) (by omega)
    rwa [show u - 40 + 40 = u by omega] at this
  · have := pr_ok5 (u - 50) (by omega)
    rwa [show u - 50 + 50 = u by omega] at this
  · have := pr_ok6 (u - 60) (by omega)
    rwa [show u - 60 + 60 = u by omega] at this
  · have := pr_ok7 (u - 70) (by omega)
    rwa [show u - 70 + 70 = u by omega] at this
  · have := pr_ok8 (u - 80) (by omega)
    rwa [show u - 80 + 80 = u by omega] at this
  · have := pr_ok9 (u - 90) (by omega)
    rwa [show u - 90 + 90 = u by omega] at this
  · have := pr_ok10 (u - 100) (by omega)
    rwa [show u - 100 + 100 = u by omega] at this
  · have := pr_ok11 (u - 110) (by omega)
    rwa [show u - 110 + 110 = u by omega] at this
  · have := pr_ok12 (u - 120) (by omega)
    rwa [show u - 120 + 120 = u by omega] at this
  · have := pr_ok13 (u - 130) (by omega)
    rwa [show u - 130 + 130 = u by omega] at this
  · have := pr_ok14 (u - 140) (by omega)
    rwa [show u - 140 + 140 = u by omega] at this
  · have := pr_ok15 (u - 150) (by omega)
    rwa [show u - 150 + 150 = u by omega] at this
  · have := pr_ok16 (u - 160) (by omega)
    rwa [show u - 160 + 160 = u by omega] at this
  · have := pr_ok17 (u - 170) (by omega)
    rwa [show u - 170 + 170 = u by omega] at this
  · have := pr_ok18 (u - 180) (by omega)
    rwa [show u - 180 + 180 = u by omega] at this
  · have := pr_ok19 (u - 190) (by omega)
    rwa [show u - 190 + 190 = u by omega] at this
theorem at_is {x N : Nat} (hx : x < 2139095040) (h : trA.at (rot x) = some N) : TnC x N := by
  have := Tr.at_ok trA_ok h
  rwa [tor_rot hx] at this
theorem pr_is {u v : Nat} (hu : u < 200) (hv : v < 200) : ∃ b N M L, ar .mul .f32 (some (xq u)) (some (xq v)) = some b ∧ TnC (xq u) N ∧ TnC (xq v) M ∧ TnC b L ∧ N + M ≤ L + 1001 ∧ L + 1000 ≤ N + M + 1 ∧ N ≤ 5000 ∧ M ≤ 5000 ∧ L ≤ 5000 := by
  have h := List.all_eq_true.1 (pr_ok u hu) _ (xq_mem hv)
  have lu := xq_lt u hu
  have lv := xq_lt v hv
  generalize xq u = x at h lu ⊢
  generalize xq v = y at h lv ⊢
  unfold prE at h
  cases e0 : mul3 x y with
  | none => rw [e0] at h; cases h
  | some b =>
    rw [e0] at h
    simp only at h
    cases eb : Nat.ble 2139095040 b <;> rw [eb] at h
    · simp only at h
      cases e1 : trA.at (rot x) with
      | none => rw [e1] at h; cases h
      | some N =>
        rw [e1] at h
        simp only at h
        cases e2 : trA.at (rot y) with
        | none => rw [e2] at h; cases h
        | some M =>
          rw [e2] at h
          simp only at h
          cases e3 : trA.at (rot b) with
          | none => rw [e3] at h; cases h
          | some L =>
            rw [e3] at h
            simp only [Bool.and_eq_true] at h
            exact ⟨b, N, M, L, mul3_is e0, at_is lu e1, at_is lv e2, at_is (ble_lt eb) e3, Nat.le_of_ble_eq_true h.1, Nat.le_of_ble_eq_true h.2.1, Nat.le_of_ble_eq_true h.2.2.1, Nat.le_of_ble_eq_true h.2.2.2.1, Nat.le_of_ble_eq_true h.2.2.2.2⟩
    · cases h
theorem one_is : TnC 1065353216 1000 := at_is (by decide) (by decide +kernel)
end Flo
end Go.Proofs.Ytpebdcimbdbbmaa
