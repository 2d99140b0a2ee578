/-
  Tenths: the tables joined; the tenths of a product of two eighths. Conditions: those that each theorem names.
-/
import Derived.Test.YtpebdcimbdbbmaaTn1
import Derived.Test.YtpebdcimbdbbmaaTn2
import Derived.Test.YtpebdcimbdbbmaaTn3
import Derived.Test.YtpebdcimbdbbmaaTn4
import Derived.Test.YtpebdcimbdbbmaaTn5
import Derived.Test.YtpebdcimbdbbmaaTn6
import Derived.Test.YtpebdcimbdbbmaaTn7
import Derived.Test.YtpebdcimbdbbmaaTn8
namespace Go.Proofs.Ytpebdcimbdbbmaa
namespace Flo
open Go
set_option maxRecDepth 100000
theorem ok_n {b N : Nat} {l r : Tr} (h : (Tr.n b N .e .e).ok = true) (hl : l.ok = true) (hr : r.ok = true) : (Tr.n b N l r).ok = true := by
  unfold Tr.ok at h ⊢
  simp only [Bool.and_eq_true] at h ⊢
  exact ⟨h.1, h.2.1, h.2.2.1, hl, hr⟩
def trA : Tr := (.n 1127174144 1224 (.n 1116684288 1186 (.n 1106493440 1148 (.n 1095991296 1112 (.n 1086029824 1077 (.n 1076690944 1043 tr1 tr2) (.n 1091960832 1097 tr3 tr4)) (.n 1101783040 1133 (.n 1099546624 1124 tr5 tr6) (.n 1104060416 1141 tr7 tr8))) (.n 1112018944 1170 (.n 1109393408 1160 (.n 1108119552 1155 tr9 tr10) (.n 1110704128 1165 tr11 tr12)) (.n 1114783744 1178 (.n 1113399296 1174 tr13 tr14) (.n 1115963392 1182 tr15 tr16)))) (.n 1123031040 1208 (.n 1119756288 1198 (.n 1118208000 1192 (.n 1117440000 1189 tr17 tr18) (.n 1118961664 1195 tr19 tr20)) (.n 1121372160 1203 (.n 1120561152 1201 tr21 tr22) (.n 1122177024 1206 tr23 tr24))) (.n 1125308416 1217 (.n 1124406272 1212 (.n 1123885056 1210 tr25 tr26) (.n 1124853760 1215 tr27 tr28)) (.n 1126223872 1221 (.n 1125765120 1219 tr29 tr30) (.n 1126686720 1222 tr31 tr32))))) (.n 1134255104 1249 (.n 1131279360 1238 (.n 1129167872 1231 (.n 1128160256 1228 (.n 1127650304 1226 tr33 tr34) (.n 1128653824 1230 tr35 tr36)) (.n 1130200064 1235 (.n 1129680896 1233 tr37 tr38) (.n 1130737664 1236 tr39 tr40))) (.n 1133019136 1244 (.n 1132404736 1241 (.n 1131831296 1239 tr41 tr42) (.n 1132725760 1242 tr43 tr44)) (.n 1133630464 1246 (.n 1133318144 1245 tr45 tr46) (.n 1133937664 1248 tr47 tr48)))) (.n 1137304576 1261 (.n 1135641600 1255 (.n 1134922752 1252 (.n 1134588928 1251 tr49 tr50) (.n 1135275520 1253 tr51 tr52)) (.n 1136433152 1258 (.n 1136029696 1256 tr53 tr54) (.n 1136855040 1259 tr55 tr56))) (.n 1139448832 1267 (.n 1138277376 1264 (.n 1137770496 1262 tr57 tr58) (.n 1138845184 1265 tr59 tr60)) (.n 1140910080 1271 (.n 1140148224 1269 tr61 tr62) (.n 1141454336 1274 tr63 tr64))))))
theorem trA_ok : trA.ok = true := (ok_n (by decide +kernel) (ok_n (by decide +kernel) (ok_n (by decide +kernel) (ok_n (by decide +kernel) (ok_n (by decide +kernel) (ok_n (by decide +kernel) tr1_ok tr2_ok) (ok_n (by decide +kernel) tr3_ok tr4_ok)) (ok_n (by decide +kernel) (ok_n (by decide +kernel) tr5_ok tr6_ok) (ok_n (by decide +kernel) tr7_ok tr8_ok))) (ok_n (by decide +kernel) (ok_n (by decide +kernel) (ok_n (by decide +kernel) tr9_ok tr10_ok) (ok_n (by decide +kernel) tr11_ok tr12_ok)) (ok_n (by decide +kernel) (ok_n (by decide +kernel) tr13_ok tr14_ok) (ok_n (by decide +kernel) tr15_ok tr16_ok)))) (ok_n (by decide +kernel) (ok_n (by decide +kernel) (ok_n (by decide +kernel) (ok_n (by decide +kernel) tr17_ok tr18_ok) (ok_n (by decide +kernel) tr19_ok tr20_ok)) (ok_n (by decide +kernel) (ok_n (by decide +kernel) tr21_ok tr22_ok) (ok_n (by decide +kernel) tr23_ok tr24_ok))) (ok_n (by decide +kernel) (ok_n (by decide +kernel) (ok_n (by decide +kernel) tr25_ok tr26_ok) (ok_n (by decide +kernel) tr27_ok tr28_ok)) (ok_n (by decide +kernel) (ok_n (by decide +kernel) tr29_ok tr30_ok) (ok_n (by decide +kernel) tr31_ok tr32_ok))))) (ok_n (by decide +kernel) (ok_n (by decide +kernel) (ok_n (by decide +kernel) (ok_n (by decide +kernel) (ok_n (by decide +kernel) tr33_ok tr34_ok) (ok_n (by decide +kernel) tr35_ok tr36_ok)) (ok_n (by decide +kernel) (ok_n (by decide +kernel) tr37_ok tr38_ok) (ok_n (by decide +kernel) tr39_ok tr40_ok))) (ok_n (by decide +kernel) (ok_n (by decide +kernel) (ok_n (by decide +kernel) tr41_ok tr42_ok) (ok_n (by decide +kernel) tr43_ok tr44_ok)) (ok_n (by decide +kernel) (ok_n (by decide +kernel) tr45_ok tr46_ok) (ok_n (by decide +kernel) tr47_ok tr48_ok)))) (ok_n (by decide +kernel) (ok_n (by decide +kernel) (ok_n (by decide +kernel) (ok_n (by decide +kernel) tr49_ok tr50_ok) (ok_n (by decide +kernel) tr51_ok tr52_ok)) (ok_n (by decide +kernel) (ok_n (by decide +kernel) tr53_ok tr54_ok) (ok_n (by decide +kernel) tr55_ok tr56_ok))) (ok_n (by decide +kernel) (ok_n (by decide +kernel) (ok_n (by decide +kernel) tr57_ok tr58_ok) (ok_n (by decide +kernel) tr59_ok tr60_ok)) (ok_n (by decide +kernel) (ok_n (by decide +kernel) tr61_ok tr62_ok) (ok_n (by decide +kernel) tr63_ok tr64_ok))))))
/-- An eighth, two, four, ..: the bits of (1 + u) / 8. -/
def XQ : List Nat := [1040187392, 1048576000, 1052770304, 1056964608, 1059061760, 1061158912, 1063256064, 1065353216, 1066401792, 1067450368, 1068498944, 1069547520, 1070596096, 1071644672, 1072693248, 1073741824, 1074266112, 1074790400, 1075314688, 1075838976, 1076363264, 1076887552, 1077411840, 1077936128, 1078460416, 1078984704, 1079508992, 1080033280, 1080557568, 1081081856, 1081606144, 1082130432, 1082392576, 1082654720, 1082916864, 1083179008, 1083441152, 1083703296, 1083965440, 1084227584, 1084489728, 1084751872, 1085014016, 1085276160, 1085538304, 1085800448, 1086062592, 1086324736, 1086586880, 1086849024, 1087111168, 1087373312, 1087635456, 1087897600, 1088159744, 1088421888, 1088684032, 1088946176, 1089208320, 1089470464, 1089732608, 1089994752, 1090256896, 1090519040, 1090650112, 1090781184, 1090912256, 1091043328, 1091174400, 1091305472, 1091436544, 1091567616, 1091698688, 1091829760, 1091960832, 1092091904, 1092222976, 1092354048, 1092485120, 1092616192, 1092747264, 1092878336, 1093009408, 1093140480, 1093271552, 1093402624, 1093533696, 1093664768, 1093795840, 1093926912, 1094057984, 1094189056, 1094320128, 1094451200, 1094582272, 1094713344, 1094844416, 1094975488, 1095106560, 1095237632, 1095368704, 1095499776, 1095630848, 1095761920, 1095892992, 1096024064, 1096155136, 1096286208, 1096417280, 1096548352, 1096679424, 1096810496, 1096941568, 1097072640, 1097203712, 1097334784, 1097465856, 1097596928, 1097728000, 1097859072, 1097990144, 1098121216, 1098252288, 1098383360, 1098514432, 1098645504, 1098776576, 1098907648, 1098973184, 1099038720, 1099104256, 1099169792, 1099235328, 1099300864, 1099366400, 1099431936, 1099497472, 1099563008, 1099628544, 1099694080, 1099759616, 1099825152, 1099890688, 1099956224, 1100021760, 1100087296, 1100152832, 1100218368, 1100283904, 1100349440, 1100414976, 1100480512, 1100546048, 1100611584, 1100677120, 1100742656, 1100808192, 1100873728, 1100939264, 1101004800, 1101070336, 1101135872, 1101201408, 1101266944, 1101332480, 1101398016, 1101463552, 1101529088, 1101594624, 1101660160, 1101725696, 1101791232, 1101856768, 1101922304, 1101987840, 1102053376, 1102118912, 1102184448, 1102249984, 1102315520, 1102381056, 1102446592, 1102512128, 1102577664, 1102643200, 1102708736, 1102774272, 1102839808, 1102905344, 1102970880, 1103036416, 1103101952, 1103167488, 1103233024, 1103298560, 1103364096, 1103429632, 1103495168, 1103560704, 1103626240]
abbrev xq (u : Nat) : Nat := XQ.getD u 0
theorem xq_is : ∀ u : Nat, u < 200 → ar .quo .f32 (some (floatOfInt .f32 ((u : Int) + 1))) (some 1090519040) = some (xq u) := by decide +kernel
/-- The pair's check. -/
def prE (u v : Nat) : Bool :=
  match ar .mul .f32 (some (xq u)) (some (xq v)) with
  | none => false
  | some b => match trA.at (xq u) with
    | none => false
    | some N => match trA.at (xq v) with
      | none => false
      | some M => match trA.at b with
        | none => false
        | some L => Nat.ble (N + M) (L + 1001) && (Nat.ble (L + 1000) (N + M + 1) && (Nat.ble N 5000 && (Nat.ble M 5000 && Nat.ble L 5000)))
theorem pr_ok0 : ∀ u : Nat, u < 10 → ∀ v : Nat, v < 200 → prE (u + 0) v = true := by decide +kernel
theorem pr_ok1 : ∀ u : Nat, u < 10 → ∀ v : Nat, v < 200 → prE (u + 10) v = true := by decide +kernel
theorem pr_ok2 : ∀ u : Nat, u < 10 → ∀ v : Nat, v < 200 → prE (u + 20) v = true := by decide +kernel
theorem pr_ok3 : ∀ u : Nat, u < 10 → ∀ v : Nat, v < 200 → prE (u + 30) v = true := by decide +kernel
theorem pr_ok4 : ∀ u : Nat, u < 10 → ∀ v : Nat, v < 200 → prE (u + 40) v = true := by decide +kernel
theorem pr_ok5 : ∀ u : Nat, u < 10 → ∀ v : Nat, v < 200 → prE (u + 50) v = true := by decide +kernel
theorem pr_ok6 : ∀ u : Nat, u < 10 → ∀ v : Nat, v < 200 → prE (u + 60) v = true := by decide +kernel
theorem pr_ok7 : ∀ u : Nat, u < 10 → ∀ v : Nat, v < 200 → prE (u + 70) v = true := by decide +kernel
theorem pr_ok8 : ∀ u : Nat, u < 10 → ∀ v : Nat, v < 200 → prE (u + 80) v = true := by decide +kernel
theorem pr_ok9 : ∀ u : Nat, u < 10 → ∀ v : Nat, v < 200 → prE (u + 90) v = true := by decide +kernel
theorem pr_ok10 : ∀ u : Nat, u < 10 → ∀ v : Nat, v < 200 → prE (u + 100) v = true := by decide +kernel
theorem pr_ok11 : ∀ u : Nat, u < 10 → ∀ v : Nat, v < 200 → prE (u + 110) v = true := by decide +kernel
theorem pr_ok12 : ∀ u : Nat, u < 10 → ∀ v : Nat, v < 200 → prE (u + 120) v = true := by decide +kernel
theorem pr_ok13 : ∀ u : Nat, u < 10 → ∀ v : Nat, v < 200 → prE (u + 130) v = true := by decide +kernel
theorem pr_ok14 : ∀ u : Nat, u < 10 → ∀ v : Nat, v < 200 → prE (u + 140) v = true := by decide +kernel
theorem pr_ok15 : ∀ u : Nat, u < 10 → ∀ v : Nat, v < 200 → prE (u + 150) v = true := by decide +kernel
theorem pr_ok16 : ∀ u : Nat, u < 10 → ∀ v : Nat, v < 200 → prE (u + 160) v = true := by decide +kernel
theorem pr_ok17 : ∀ u : Nat, u < 10 → ∀ v : Nat, v < 200 → prE (u + 170) v = true := by decide +kernel
theorem pr_ok18 : ∀ u : Nat, u < 10 → ∀ v : Nat, v < 200 → prE (u + 180) v = true := by decide +kernel
theorem pr_ok19 : ∀ u : Nat, u < 10 → ∀ v : Nat, v < 200 → prE (u + 190) v = true := by decide +kernel
theorem pr_ok (u : Nat) (hu : u < 200) (v : Nat) (hv : v < 200) : prE u v = true := by
  rcases (by omega : u < 10 ∨ (10 ≤ u ∧ u < 20) ∨ (20 ≤ u ∧ u < 30) ∨ (30 ≤ u ∧ u < 40) ∨ (40 ≤ u ∧ u < 50) ∨ (50 ≤ u ∧ u < 60) ∨ (60 ≤ u ∧ u < 70) ∨ (70 ≤ u ∧ u < 80) ∨ (80 ≤ u ∧ u < 90) ∨ (90 ≤ u ∧ u < 100) ∨ (100 ≤ u ∧ u < 110) ∨ (110 ≤ u ∧ u < 120) ∨ (120 ≤ u ∧ u < 130) ∨ (130 ≤ u ∧ u < 140) ∨ (140 ≤ u ∧ u < 150) ∨ (150 ≤ u ∧ u < 160) ∨ (160 ≤ u ∧ u < 170) ∨ (170 ≤ u ∧ u < 180) ∨ (180 ≤ u ∧ u < 190) ∨ (190 ≤ u ∧ u < 200)) with h | h | h | h | h | h | h | h | h | h | h | h | h | h | h | h | h | h | h | h
  · exact pr_ok0 u h v hv
  · have := pr_ok1 (u - 10) (by omega) v hv
    rwa [show u - 10 + 10 = u by omega] at this
  · have := pr_ok2 (u - 20) (by omega) v hv
    rwa [show u - 20 + 20 = u by omega] at this
  · have := pr_ok3 (u - 30) (by omega) v hv
    rwa [show u - 30 + 30 = u by omega] at this
  · have := pr_ok4 (u - 40) (by omega) v hv
    rwa [show u - 40 + 40 = u by omega] at this
  · have := pr_ok5 (u - 50) (by omega) v hv
    rwa [show u - 50 + 50 = u by omega] at this
  · have := pr_ok6 (u - 60) (by omega) v hv
    rwa [show u - 60 + 60 = u by omega] at this
  · have := pr_ok7 (u - 70) (by omega) v hv
    rwa [show u - 70 + 70 = u by omega] at this
  · have := pr_ok8 (u - 80) (by omega) v hv
    rwa [show u - 80 + 80 = u by omega] at this
  · have := pr_ok9 (u - 90) (by omega) v hv
    rwa [show u - 90 + 90 = u by omega] at this
  · have := pr_ok10 (u - 100) (by omega) v hv
    rwa [show u - 100 + 100 = u by omega] at this
  · have := pr_ok11 (u - 110) (by omega) v hv
    rwa [show u - 110 + 110 = u by omega] at this
  · have := pr_ok12 (u - 120) (by omega) v hv
    rwa [show u - 120 + 120 = u by omega] at this
  · have := pr_ok13 (u - 130) (by omega) v hv
    rwa [show u - 130 + 130 = u by omega] at this
  · have := pr_ok14 (u - 140) (by omega) v hv
    rwa [show u - 140 + 140 = u by omega] at this
  · have := pr_ok15 (u - 150) (by omega) v hv
    rwa [show u - 150 + 150 = u by omega] at this
  · have := pr_ok16 (u - 160) (by omega) v hv
    rwa [show u - 160 + 160 = u by omega] at this
  · have := pr_ok17 (u - 170) (by omega) v hv
    rwa [show u - 170 + 170 = u by omega] at this
  · have := pr_ok18 (u - 180) (by omega) v hv
    rwa [show u - 180 + 180 = u by omega] at this
  · have := pr_ok19 (u - 190) (by omega) v hv
    rwa [show u - 190 + 190 = u by omega] at this
theorem pr_is {u v : Nat} (hu : u < 200) (hv : v < 200) : ∃ b N M L, ar .mul .f32 (some (xq u)) (some (xq v)) = some b ∧ TnC (xq u) N ∧ TnC (xq v) M ∧ TnC b L ∧ N + M ≤ L + 1001 ∧ L + 1000 ≤ N + M + 1 ∧ N ≤ 5000 ∧ M ≤ 5000 ∧ L ≤ 5000 := by
  have h := pr_ok u hu v hv
  unfold prE at h
  cases e0 : ar .mul .f32 (some (xq u)) (some (xq v)) with
  | none => rw [e0] at h; cases h
  | some b =>
    rw [e0] at h
    simp only at h
    cases e1 : trA.at (xq u) with
    | none => rw [e1] at h; cases h
    | some N =>
      rw [e1] at h
      simp only at h
      cases e2 : trA.at (xq v) with
      | none => rw [e2] at h; cases h
      | some M =>
        rw [e2] at h
        simp only at h
        cases e3 : trA.at b with
        | none => rw [e3] at h; cases h
        | some L =>
          rw [e3] at h
          simp only [Bool.and_eq_true] at h
          exact ⟨b, N, M, L, rfl, Tr.at_ok trA_ok e1, Tr.at_ok trA_ok e2, Tr.at_ok trA_ok e3, Nat.le_of_ble_eq_true h.1, Nat.le_of_ble_eq_true h.2.1, Nat.le_of_ble_eq_true h.2.2.1, Nat.le_of_ble_eq_true h.2.2.2.1, Nat.le_of_ble_eq_true h.2.2.2.2⟩
theorem one_is : TnC 1065353216 1000 := Tr.at_ok trA_ok (by decide +kernel)
end Flo
end Go.Proofs.Ytpebdcimbdbbmaa
