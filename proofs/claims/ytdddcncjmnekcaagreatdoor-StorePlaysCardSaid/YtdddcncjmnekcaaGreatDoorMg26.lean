/- MarksS, SWorks, Cut, Below, MVal, Acts, PlaysI. -/
import Derived.Test.YtdddcncjmnekcaaGreatDoorRows
import Derived.Test.YtdddcncjmnekcaaGreatDoorMg2
import Derived.Test.YtdddcncjmnekcaaGreatDoorMg3
import Derived.Test.YtdddcncjmnekcaaGreatDoorMg11
import Derived.Test.YtdddcncjmnekcaaGreatDoorMg13
import Derived.Test.YtdddcncjmnekcaaGreatDoorMg17
import Derived.Test.YtdddcncjmnekcaaGreatDoorMg25
set_option linter.unnecessarySimpa false

/- The chapter's example's two sums differ. -/
set_option linter.unusedSimpArgs false
set_option linter.unusedVariables false
namespace Go.Proofs.YtdddcncjmnekcaaGreatDoor
open Go.RowKit

def wXx : List Int := [24674304, 0, 0, 0, 0, 0, 0, 0, 0, 0, 0, 0, 0, 0, 0, 16, 24674304, 655360, 1342201523, 1073742468, 614187543, 16951296, 2571128894, 41467915, 575197084, 3355762166, 3191146978, 437485132, 652553630, 1781095122, 1441935090, 3365970705, 2620444356, 2133122745, 3906125569, 903417923, 1094871765, 2066648572, 4879489, 1173588254, 3660284170, 4149712958, 3917883014, 242368537, 2028169081, 942227129, 2373225168, 73479362, 2991455963, 3601787098, 4238317704, 2417994707, 230851127, 3364122909, 3967535241, 2643760624, 3545571590, 1704647711, 1376921600, 1979576114, 3445079031, 17264014, 527683992, 298360821]
def sXx : List (List Int) := [[1779033703, 3144134277, 1013904242, 2773480762, 1359893119, 2600822924, 528734635, 1541459225],
  [4253091917, 1779033703, 3144134277, 1013904242, 2587910818, 1359893119, 2600822924, 528734635],
  [3556493671, 4253091917, 1779033703, 3144134277, 3694818471, 2587910818, 1359893119, 2600822924],
  [1290518518, 3556493671, 4253091917, 1779033703, 3152261964, 3694818471, 2587910818, 1359893119],
  [501927594, 1290518518, 3556493671, 4253091917, 3885095447, 3152261964, 3694818471, 2587910818],
  [466575026, 501927594, 1290518518, 3556493671, 1649648270, 3885095447, 3152261964, 3694818471],
  [3749117464, 466575026, 501927594, 1290518518, 1198335764, 1649648270, 3885095447, 3152261964],
  [1926105368, 3749117464, 466575026, 501927594, 2196226824, 1198335764, 1649648270, 3885095447],
  [3997202492, 1926105368, 3749117464, 466575026, 1141404369, 2196226824, 1198335764, 1649648270],
  [1386247262, 3997202492, 1926105368, 3749117464, 1955707715, 1141404369, 2196226824, 1198335764],
  [2013582136, 1386247262, 3997202492, 1926105368, 758081494, 1955707715, 1141404369, 2196226824],
  [1332475058, 2013582136, 1386247262, 3997202492, 3014359174, 758081494, 1955707715, 1141404369],
  [3518018487, 1332475058, 2013582136, 1386247262, 3426084971, 3014359174, 758081494, 1955707715],
  [1165385511, 3518018487, 1332475058, 2013582136, 2480497061, 3426084971, 3014359174, 758081494],
  [3541923711, 1165385511, 3518018487, 1332475058, 345256338, 2480497061, 3426084971, 3014359174],
  [1683629583, 3541923711, 1165385511, 3518018487, 2813159698, 345256338, 2480497061, 3426084971],
  [679006962, 1683629583, 3541923711, 1165385511, 852850871, 2813159698, 345256338, 2480497061],
  [2686533542, 679006962, 1683629583, 3541923711, 2256169075, 852850871, 2813159698, 345256338],
  [399182976, 2686533542, 679006962, 1683629583, 4172052729, 2256169075, 852850871, 2813159698],
  [2801025627, 399182976, 2686533542, 679006962, 2636434593, 4172052729, 2256169075, 852850871],
  [2194425232, 2801025627, 399182976, 2686533542, 3657089105, 2636434593, 4172052729, 2256169075],
  [105829876, 2194425232, 2801025627, 399182976, 3800206333, 3657089105, 2636434593, 4172052729],
  [124693349, 105829876, 2194425232, 2801025627, 50928387, 3800206333, 3657089105, 2636434593],
  [4254540415, 124693349, 105829876, 2194425232, 4259223861, 50928387, 3800206333, 3657089105],
  [735838093, 4254540415, 124693349, 105829876, 4148544984, 4259223861, 50928387, 3800206333],
  [364420306, 735838093, 4254540415, 124693349, 314978758, 4148544984, 4259223861, 50928387],
  [1968664036, 364420306, 735838093, 4254540415, 3181156292, 314978758, 4148544984, 4259223861],
  [1218715177, 1968664036, 364420306, 735838093, 3768410829, 3181156292, 314978758, 4148544984],
  [753917168, 1218715177, 1968664036, 364420306, 3489388565, 3768410829, 3181156292, 314978758],
  [1514372073, 753917168, 1218715177, 1968664036, 2940955370, 3489388565, 3768410829, 3181156292],
  [3972498916, 1514372073, 753917168, 1218715177, 2499930967, 2940955370, 3489388565, 3768410829],
  [946957954, 3972498916, 1514372073, 753917168, 172792277, 2499930967, 2940955370, 3489388565],
  [1384718887, 946957954, 3972498916, 1514372073, 3346923117, 172792277, 2499930967, 2940955370],
  [2745922655, 1384718887, 946957954, 3972498916, 2753398808, 3346923117, 172792277, 2499930967],
  [1515234209, 2745922655, 1384718887, 946957954, 749208764, 2753398808, 3346923117, 172792277],
  [3061370202, 1515234209, 2745922655, 1384718887, 2471533233, 749208764, 2753398808, 3346923117],
  [2210815183, 3061370202, 1515234209, 2745922655, 4283936594, 2471533233, 749208764, 2753398808],
  [2603062029, 2210815183, 3061370202, 1515234209, 2357428883, 4283936594, 2471533233, 749208764],
  [258406467, 2603062029, 2210815183, 3061370202, 1969730306, 2357428883, 4283936594, 2471533233],
  [2738600731, 258406467, 2603062029, 2210815183, 875357964, 1969730306, 2357428883, 4283936594],
  [3316780356, 2738600731, 258406467, 2603062029, 3746633073, 875357964, 1969730306, 2357428883],
  [437526770, 3316780356, 2738600731, 258406467, 2592685285, 3746633073, 875357964, 1969730306],
  [1980680788, 437526770, 3316780356, 2738600731, 816678992, 2592685285, 3746633073, 875357964],
  [2784468346, 1980680788, 437526770, 3316780356, 2132016390, 816678992, 2592685285, 3746633073],
  [1769605545, 2784468346, 1980680788, 437526770, 1547201542, 2132016390, 816678992, 2592685285],
  [1272239095, 1769605545, 2784468346, 1980680788, 20381522, 1547201542, 2132016390, 816678992],
  [2127814340, 1272239095, 1769605545, 2784468346, 1827362729, 20381522, 1547201542, 2132016390],
  [1220414876, 2127814340, 1272239095, 1769605545, 3690380893, 1827362729, 20381522, 1547201542],
  [3544496783, 1220414876, 2127814340, 1272239095, 1793862831, 3690380893, 1827362729, 20381522],
  [125707049, 3544496783, 1220414876, 2127814340, 3325480137, 1793862831, 3690380893, 1827362729],
  [1184212708, 125707049, 3544496783, 1220414876, 3788522229, 3325480137, 1793862831, 3690380893],
  [3802573738, 1184212708, 125707049, 3544496783, 1945324171, 3788522229, 3325480137, 1793862831],
  [1620904687, 3802573738, 1184212708, 125707049, 1843072385, 1945324171, 3788522229, 3325480137],
  [2769446216, 1620904687, 3802573738, 1184212708, 1317200306, 1843072385, 1945324171, 3788522229],
  [1615735841, 2769446216, 1620904687, 3802573738, 2075726790, 1317200306, 1843072385, 1945324171],
  [708613271, 1615735841, 2769446216, 1620904687, 2870806240, 2075726790, 1317200306, 1843072385],
  [1878436750, 708613271, 1615735841, 2769446216, 336685587, 2870806240, 2075726790, 1317200306],
  [2420637929, 1878436750, 708613271, 1615735841, 2914700481, 336685587, 2870806240, 2075726790],
  [298680059, 2420637929, 1878436750, 708613271, 71435858, 2914700481, 336685587, 2870806240],
  [1366959373, 298680059, 2420637929, 1878436750, 1671057703, 71435858, 2914700481, 336685587],
  [3173764750, 1366959373, 298680059, 2420637929, 2268732764, 1671057703, 71435858, 2914700481],
  [3642674117, 3173764750, 1366959373, 298680059, 3824565782, 2268732764, 1671057703, 71435858],
  [3147966526, 3642674117, 3173764750, 1366959373, 2699979337, 3824565782, 2268732764, 1671057703],
  [594083580, 3147966526, 3642674117, 3173764750, 1408936843, 2699979337, 3824565782, 2268732764],
  [3116270627, 594083580, 3147966526, 3642674117, 1593742144, 1408936843, 2699979337, 3824565782]]
def wXy : List Int := [24739840, 0, 0, 0, 0, 0, 0, 0, 0, 0, 0, 0, 0, 0, 0, 16, 24739840, 655360, 4026556147, 1073742468, 614172183, 16951296, 3015725135, 41533451, 571269004, 3355762166, 876550388, 437469772, 1886141278, 2099862250, 3176574274, 141680225, 3433434786, 4154771864, 3505047512, 2039371998, 2265610730, 1120947195, 2523204553, 664327834, 39266788, 861529848, 1803603654, 755517690, 3217262206, 2054705041, 1297454912, 412242821, 2530827592, 3777256827, 2836482683, 974298889, 2046634191, 1872965918, 3849465457, 3210777285, 3321798079, 3919013008, 649225858, 285070876, 3982449317, 2660515241, 4038422474, 1283196800]
def sXy : List (List Int) := [[1779033703, 3144134277, 1013904242, 2773480762, 1359893119, 2600822924, 528734635, 1541459225],
  [4253157453, 1779033703, 3144134277, 1013904242, 2587976354, 1359893119, 2600822924, 528734635],
  [3497823631, 4253157453, 1779033703, 3144134277, 3703142599, 2587976354, 1359893119, 2600822924],
  [2808284236, 3497823631, 4253157453, 1779033703, 6981308, 3703142599, 2587976354, 1359893119],
  [1690262743, 2808284236, 3497823631, 4253157453, 1371172443, 6981308, 3703142599, 2587976354],
  [2185620257, 1690262743, 2808284236, 3497823631, 3630249794, 1371172443, 6981308, 3703142599],
  [789550720, 2185620257, 1690262743, 2808284236, 720562396, 3630249794, 1371172443, 6981308],
  [2786436975, 789550720, 2185620257, 1690262743, 2781884378, 720562396, 3630249794, 1371172443],
  [436710655, 2786436975, 789550720, 2185620257, 1415281351, 2781884378, 720562396, 3630249794],
  [892502075, 436710655, 2786436975, 789550720, 3383098627, 1415281351, 2781884378, 720562396],
  [1544973108, 892502075, 436710655, 2786436975, 1316517863, 3383098627, 1415281351, 2781884378],
  [3006489438, 1544973108, 892502075, 436710655, 640071552, 1316517863, 3383098627, 1415281351],
  [230143206, 3006489438, 1544973108, 892502075, 1993917223, 640071552, 1316517863, 3383098627],
  [396278286, 230143206, 3006489438, 1544973108, 889962017, 1993917223, 640071552, 1316517863],
  [300427537, 396278286, 230143206, 3006489438, 650622927, 889962017, 1993917223, 640071552],
  [2664976202, 300427537, 396278286, 230143206, 2415278432, 650622927, 889962017, 1993917223],
  [2569993414, 2664976202, 300427537, 396278286, 3526276919, 2415278432, 650622927, 889962017],
  [2254837777, 2569993414, 2664976202, 300427537, 143653051, 3526276919, 2415278432, 650622927],
  [850555856, 2254837777, 2569993414, 2664976202, 1823886706, 143653051, 3526276919, 2415278432],
  [1428810135, 850555856, 2254837777, 2569993414, 100234852, 1823886706, 143653051, 3526276919],
  [932682118, 1428810135, 850555856, 2254837777, 2085457469, 100234852, 1823886706, 143653051],
  [3423588215, 932682118, 1428810135, 850555856, 4212108271, 2085457469, 100234852, 1823886706],
  [2273449754, 3423588215, 932682118, 1428810135, 2913236160, 4212108271, 2085457469, 100234852],
  [4047623029, 2273449754, 3423588215, 932682118, 2910538286, 2913236160, 4212108271, 2085457469],
  [3714125447, 4047623029, 2273449754, 3423588215, 1866639232, 2910538286, 2913236160, 4212108271],
  [2428641533, 3714125447, 4047623029, 2273449754, 2150900097, 1866639232, 2910538286, 2913236160],
  [3018299125, 2428641533, 3714125447, 4047623029, 4274565805, 2150900097, 1866639232, 2910538286],
  [1875906769, 3018299125, 2428641533, 3714125447, 2317299971, 4274565805, 2150900097, 1866639232],
  [1167567099, 1875906769, 3018299125, 2428641533, 3522848642, 2317299971, 4274565805, 2150900097],
  [2612850241, 1167567099, 1875906769, 3018299125, 4236989112, 3522848642, 2317299971, 4274565805],
  [1282173865, 2612850241, 1167567099, 1875906769, 3378805172, 4236989112, 3522848642, 2317299971],
  [2350368502, 1282173865, 2612850241, 1167567099, 3995799590, 3378805172, 4236989112, 3522848642],
  [2852812399, 2350368502, 1282173865, 2612850241, 2545608022, 3995799590, 3378805172, 4236989112],
  [3918141014, 2852812399, 2350368502, 1282173865, 2299669064, 2545608022, 3995799590, 3378805172],
  [2165754987, 3918141014, 2852812399, 2350368502, 82595643, 2299669064, 2545608022, 3995799590],
  [2648444308, 2165754987, 3918141014, 2852812399, 2831247475, 82595643, 2299669064, 2545608022],
  [3426321954, 2648444308, 2165754987, 3918141014, 2965385289, 2831247475, 82595643, 2299669064],
  [1528683182, 3426321954, 2648444308, 2165754987, 1401608558, 2965385289, 2831247475, 82595643],
  [3670894896, 1528683182, 3426321954, 2648444308, 1239912396, 1401608558, 2965385289, 2831247475],
  [310662415, 3670894896, 1528683182, 3426321954, 2343651637, 1239912396, 1401608558, 2965385289],
  [3301772503, 310662415, 3670894896, 1528683182, 3102440608, 2343651637, 1239912396, 1401608558],
  [2619219845, 3301772503, 310662415, 3670894896, 2159047374, 3102440608, 2343651637, 1239912396],
  [1690998317, 2619219845, 3301772503, 310662415, 3350622325, 2159047374, 3102440608, 2343651637],
  [4226058988, 1690998317, 2619219845, 3301772503, 2274986794, 3350622325, 2159047374, 3102440608],
  [824145308, 4226058988, 1690998317, 2619219845, 4251489622, 2274986794, 3350622325, 2159047374],
  [776282821, 824145308, 4226058988, 1690998317, 2065991238, 4251489622, 2274986794, 3350622325],
  [3730471481, 776282821, 824145308, 4226058988, 3198992249, 2065991238, 4251489622, 2274986794],
  [2986653611, 3730471481, 776282821, 824145308, 2681816278, 3198992249, 2065991238, 4251489622],
  [1382501055, 2986653611, 3730471481, 776282821, 2185263787, 2681816278, 3198992249, 2065991238],
  [3026435633, 1382501055, 2986653611, 3730471481, 4095256927, 2185263787, 2681816278, 3198992249],
  [1729727692, 3026435633, 1382501055, 2986653611, 2157886986, 4095256927, 2185263787, 2681816278],
  [647189719, 1729727692, 3026435633, 1382501055, 1218319202, 2157886986, 4095256927, 2185263787],
  [2556937533, 647189719, 1729727692, 3026435633, 2725033458, 1218319202, 2157886986, 4095256927],
  [3779889480, 2556937533, 647189719, 1729727692, 2663038604, 2725033458, 1218319202, 2157886986],
  [2692127814, 3779889480, 2556937533, 647189719, 655841282, 2663038604, 2725033458, 1218319202],
  [3294417946, 2692127814, 3779889480, 2556937533, 3123699073, 655841282, 2663038604, 2725033458],
  [3568469569, 3294417946, 2692127814, 3779889480, 707539523, 3123699073, 655841282, 2663038604],
  [2903417772, 3568469569, 3294417946, 2692127814, 1017746780, 707539523, 3123699073, 655841282],
  [2483621485, 2903417772, 3568469569, 3294417946, 1673048705, 1017746780, 707539523, 3123699073],
  [3736403382, 2483621485, 2903417772, 3568469569, 3702519264, 1673048705, 1017746780, 707539523],
  [3072808614, 3736403382, 2483621485, 2903417772, 1709185931, 3702519264, 1673048705, 1017746780],
  [3393450063, 3072808614, 3736403382, 2483621485, 1535524614, 1709185931, 3702519264, 1673048705],
  [72985048, 3393450063, 3072808614, 3736403382, 990589562, 1535524614, 1709185931, 3702519264],
  [3190345550, 72985048, 3393450063, 3072808614, 3978867596, 990589562, 1535524614, 1709185931],
  [2413395312, 3190345550, 72985048, 3393450063, 1106506331, 3978867596, 990589562, 1535524614]]
set_option maxRecDepth 100000 in
theorem wXx_ok : okW (blkB (padP [1, 120]) 0) wXx = true := by decide +kernel
set_option maxRecDepth 100000 in
theorem rXx_ok : okR firstW wXx sXx = true := by decide +kernel
theorem oneXx : (padP [1, 120]).length / 64 = 1 := by decide +kernel
set_option maxRecDepth 100000 in
theorem wXy_ok : okW (blkB (padP [1, 121]) 0) wXy = true := by decide +kernel
set_option maxRecDepth 100000 in
theorem rXy_ok : okR firstW wXy sXy = true := by decide +kernel
theorem oneXy : (padP [1, 121]).length / 64 = 1 := by decide +kernel
theorem sums_differ : tagP 1 [120] ≠ tagP 1 [121] := by
  intro h
  have h5 := sum_byte [1, 120] wXx sXx oneXx wXx_ok rXx_ok
  have h6 := sum_byte [1, 121] wXy sXy oneXy wXy_ok rXy_ok
  have h1 : (sumP [1, 120]).getD 0 0 = (sumP [1, 121]).getD 0 0 := congrArg (fun l => l.getD 0 0) h
  rw [h5, h6] at h1
  revert h1
  decide +kernel
end Go.Proofs.YtdddcncjmnekcaaGreatDoor

/- The chapter's example. -/
set_option linter.unusedSimpArgs false
set_option linter.unusedVariables false
namespace Go.Proofs.YtdddcncjmnekcaaGreatDoor
open Go.RowKit Go.WideMaps Go.Maps Go.Sort Go.Shelf Pl

theorem dec_x : (dec [120]).2 = 80 := by rfl
theorem put_first (t : Bs) : putT [] t = [(tagP 1 t, t)] := by
  unfold putT
  rw [if_neg (by simp [keysE])]
  rfl
theorem keep_one {sx sy : Bs} (hne : sx ≠ sy) {I : List Bs} (hI : ∀ s, s ∈ I ↔ Rch [(sx, [120]), (sy, [121])] [sx] s) : keepT [(sx, [120]), (sy, [121])] I = [(sx, [120])] := by
  have hk : sx ∈ keysE [(sx, [120]), (sy, [121])] := by simp [keysE]
  have hx : sx ∈ I := (hI sx).2 (.start (by simp) hk)
  have hkid : kidsT [(sx, [120]), (sy, [121])] sx = [] := by
    unfold kidsT
    have h : nodeT [(sx, [120]), (sy, [121])] sx = dec [120] := by
      rw [nodeT_in hk]
      simp [getT]
    rw [h, if_neg (by rw [dec_x]; decide)]
  have hall : ∀ s, Rch [(sx, [120]), (sy, [121])] [sx] s → s = sx := by
    intro s h
    induction h with
    | start h _ => simpa using h
    | step _ h _ ih => rw [ih, hkid] at h; cases h
  have hy : sy ∉ I := fun h => hne (hall sy ((hI sy).1 h)).symm
  unfold keepT
  simp [hx, hy]
set_option maxRecDepth 100000 in
set_option maxHeartbeats 2000000 in
theorem works9_any (w : World) (hk : KT w) :
    Calls Tryz.prog 15 #[] w fun e w' => e = .returned (.bool true) ∧ Below w.heap.size w w' := by
  have hd := sums_differ
  have hxl := tagP_len 1 [120]
  have hyl := tagP_len 1 [121]
  have hp1 := put_first [120]
  have hp2 : putT [(tagP 1 [120], [120])] [121] = [(tagP 1 [120], [120]), (tagP 1 [121], [121])] := put_new (by simp [keysE]; exact fun h => hd h.symm)
  have hnw := snew_any w
  have hpx := fun W base p b h1 h2 => sput_any base p b [] [120] (by simp) (by simp) W h1 h2
  have hpy := fun W base p b T h0 h1 h2 => sput_any base p b T [121] (by simp) h0 W h1 h2
  rw [hp1] at hpx
  generalize tagP 1 [120] = sx at *
  generalize tagP 1 [121] = sy at *
  have HD := Lib.hid hd
  have HP2 := Lib.hid hp2
  have HXL := Lib.hid hxl
  have HYL := Lib.hid hyl
  clear hp1 hp2 hd hxl hyl
  obtain ⟨b, hb0⟩ : ∃ b, b = w.heap.size := ⟨_, rfl⟩
  rw [← hb0] at hnw
  have hbb : w.heap.size ≤ b := by omega
  clear hb0
  go_enter Tryz.func15, Tryz.ntmps15
  go_wp2_with fail
  refine hnw.mono ?_
  rintro e w1 ⟨rfl, hS1, hb1⟩
  replace hb1 := hb1
  generalize b + 1 = p at *
  go_wp2_with fail
  refine (hpx w1 b p b (hk.keep (hb1.mono hbb)) hS1).mono ?_
  rintro e w2 ⟨rfl, hS2, hg2⟩
  have hb2 : Below b w w2 := hb1.grown hg2 (Nat.le_of_lt hS1.blt) (fun j hj => by cases hj; exact Nat.le_refl _)
  clear hpx hnw hb1 hS1 hg2
  have hpy2 := hpy w2 b p b [(sx, [120])] (by simp) (hk.keep (hb2.mono hbb)) hS2
  rw [HP2.out] at hpy2
  clear hpy
  go_wp2_with fail
  refine hpy2.mono ?_
  rintro e w3 ⟨rfl, hS3, hg3⟩
  have hb3 : Below b w w3 := hb2.grown hg3 (Nat.le_of_lt hS2.blt) (fun j hj => by cases hj; exact Nat.le_refl _)
  clear hpy2 hb2 hS2 hg3
  have e1 : ((sx.length : Int) != 32) = false := by simp; have := HXL.out; omega
  have e2 : (sx == sy) = false := by simpa using HD.out
  have e3 : decide (sx = sy) = false := by simpa using HD.out
  have hb4 := hb3.alloc (Nat.le_of_lt hS3.blt) (.cells #[.string ⟨List.toArray (sx)⟩] 9)
  have hS4 := hS3.keep (Below.allocS (Below.refl _ _) (.cells #[.string ⟨List.toArray (sx)⟩] 9))
  have hu4 : SRow (w3.alloc (.cells #[.string ⟨List.toArray (sx)⟩] 9)) 0 (.slice (some ⟨w3.heap.size, 0, none⟩) 1 1) [sx] := World.ownsRow_lit w3 #[.string ⟨List.toArray (sx)⟩] 1 (Nat.zero_le _) (by unfold maxLen; omega) rfl
  have hke := skeep_any b 0 p b [(sx, [120]), (sy, [121])] (fun e he => by simp at he; rcases he with rfl | rfl <;> simp) (by simp) _ [sx] (by simp) (fun x hx => by simp at hx; subst hx; have := HXL.out; omega) (fun x hx => by
    simp [keysE] at hx
    unfold maxLen
    rcases hx with rfl | rfl
    · have := HXL.out; omega
    · have := HYL.out; omega) _ hS4 hu4
  clear hS3 hb3
  go_wp2_with fail
  refine hke.mono ?_
  rintro e w5 ⟨I, hI, rfl, hS5, hg5⟩
  have hb5 : Below b w w5 := hb4.grown hg5 (Nat.le_of_lt hS4.blt) (fun j hj => by cases hj; exact Nat.le_refl _)
  rw [keep_one HD.out hI] at hS5 ⊢
  have hxm : sx.length ≤ maxLen := by have := HXL.out; unfold maxLen; omega
  have hym : sy.length ≤ maxLen := by have := HYL.out; unfold maxLen; omega
  have hgx := fun W h => sget_any b p b [(sx, [120])] sx hxm W h
  have hgy := fun W h => sget_any b p b [(sx, [120])] sy hym W h
  have hny := fun W h => snode_any b p b [(sx, [120])] (fun e he => by simp at he; subst he; simp) sy hym W h
  have hyk : sy ∉ keysE [(sx, [120])] := by simp [keysE]; exact fun h => HD.out h.symm
  rw [show (getT [(sx, [120])] sx).getD [] = [120] from by simp [getT], show decide (sx ∈ keysE [(sx, [120])]) = true from by simp [keysE]] at hgx
  rw [get_none hyk, show decide (sy ∈ keysE [(sx, [120])]) = false from by simpa using hyk] at hgy
  rw [nodeT_out hyk] at hny
  clear hke hI hu4 hS4 hb4 hg5 hyk
  go_wp2_with fail
  refine (hgx _ hS5).mono ?_
  rintro e w6 ⟨rfl, hb⟩
  have hS6 := hS5.keep hb
  have hb6 := hb5.trans (hb.mono (Nat.le_of_lt hS5.blt))
  clear hb hb5 hS5 hgx
  go_wp2_with fail
  refine (hgy _ hS6).mono ?_
  rintro e w7 ⟨rfl, hb⟩
  have hS7 := hS6.keep hb
  have hb7 := hb6.trans (hb.mono (Nat.le_of_lt hS6.blt))
  clear hb hb6 hS6 hgy
  go_wp2_with fail
  refine (hny _ hS7).mono ?_
  rintro e w8 ⟨rfl, hb⟩
  have hb8 := hb7.trans (hb.mono (Nat.le_of_lt hS7.blt))
  have hs8 := Nat.le_trans (Nat.le_of_lt hS7.blt) hb.size
  clear hb hb7 hS7 hny
  go_wp2_with (refine wpList_nodeStore rfl rfl (.tmp 8) (.tmp 48) rfl rfl (kind := ndZ.kind) (path := ndZ.path) (val := ndZ.val) (kid := ndZ.kid) rfl (k2 := 0) (p2 := []) (v2 := []) (kid2 := noK) (Blk.new' (by simp)) ?_; intro w9 N9 m9)
  have hb9 : Below b w w9 := Below.mod (hb8.alloc hs8 _) m9 (by simp; omega) (by simp; omega)
  all_goals (go_ret; exact ⟨rfl, hb9.mono hbb⟩)
end Go.Proofs.YtdddcncjmnekcaaGreatDoor

/- pharosbook.Cut. -/
set_option linter.unusedSimpArgs false
set_option linter.unusedVariables false
namespace Go.Proofs.YtdddcncjmnekcaaGreatDoor
open Go.RowKit Pl

set_option maxRecDepth 100000 in
theorem cut_any (s : Bs) (n : Nat) (hs : s.length ≤ 9223372036854775807) (w : World) :
    Calls Tryz.prog 22 #[.string ⟨List.toArray (s)⟩, .int .i64 ((n : Int))] w fun e w' => e = .returned (.string ⟨List.toArray (s.take n)⟩) ∧ Below w.heap.size w w' := by
  by_cases h : n < s.length
  · have d : decide ((n : Int) < (s.length : Int)) = true := by simp; omega
    go_enter Tryz.func22, Tryz.ntmps22
    go_wp2_with fail
    all_goals (go_ret; exact ⟨by simp, Below.refl _ _⟩)
  · have d : decide ((n : Int) < (s.length : Int)) = false := by simp; omega
    go_enter Tryz.func22, Tryz.ntmps22
    go_wp2_with fail
    all_goals (go_ret; exact ⟨by rw [List.take_of_length_le (by omega)]; rfl, Below.refl _ _⟩)
end Go.Proofs.YtdddcncjmnekcaaGreatDoor

/- A number from 0 on, below n: the walk of Below. -/
set_option linter.unusedSimpArgs false
set_option linter.unusedVariables false
namespace Go.Proofs.YtdddcncjmnekcaaGreatDoor
open Go.RowKit

theorem tmod_small (x n : Int) (h : 0 < n) : -n < x.tmod n ∧ x.tmod n < n := by
  rw [Int.tmod_eq_emod]
  have h1 := Int.emod_nonneg x (Int.ne_of_gt h)
  have h2 := Int.emod_lt_of_pos x h
  split <;> omega
theorem tmod_twice (x n : Int) (h : 0 < n) : (x.tmod n + n).tmod n = x % n := by
  have hs := tmod_small x n h
  rw [Int.tmod_eq_emod_of_nonneg (by omega), Int.add_emod_right, Int.tmod_eq_emod]
  split
  · simp
  · rw [show (x % n - (n.natAbs : Int)) = x % n + n * (-1) from by omega, Int.add_mul_emod_self_left, Int.emod_emod]
/-- x % n as a number of ours. -/
def modN (x : Int) (n : Nat) : Nat := (x % (n : Int)).toNat
theorem modN_eq (x : Int) (n : Nat) (h : 0 < n) : ((modN x n : Nat) : Int) = x % (n : Int) := by
  unfold modN
  rw [Int.toNat_of_nonneg (Int.emod_nonneg x (by omega))]
theorem modN_lt (x : Int) (n : Nat) (h : 0 < n) : modN x n < n := by
  have := modN_eq x n h
  have h2 := Int.emod_lt_of_pos x (show (0 : Int) < (n : Int) from by omega)
  omega
set_option maxRecDepth 100000 in
theorem below_any (x : Int) (n : Nat) (h0 : 0 < n) (hn : n ≤ 1000000000) (w : World) :
    Calls Tryz.prog 5 #[.int .i64 (x), .int .i64 ((n : Int))] w fun e w' => e = .returned (.int .i64 ((modN x n : Int))) ∧ w' = w := by
  have h1 := tmod_small x n (by omega)
  have h2 := tmod_twice x n (by omega)
  rw [← modN_eq x n h0] at h2
  have z : ((n : Int) == 0) = false := by simp; omega
  have z2 : (n : Int) ≠ 0 := by omega
  have w1 : IntKind.i64.wrap (x.tmod n + n) = x.tmod n + n := by rw [IntKind.wrap_i64]; omega
  have hm := modN_lt x n h0
  have w2 : IntKind.i64.wrap (x.tmod n) = x.tmod n := by rw [IntKind.wrap_i64]; omega
  have w3 : IntKind.i64.wrap ((modN x n : Nat) : Int) = ((modN x n : Nat) : Int) := by rw [IntKind.wrap_i64]; omega
  go_enter Tryz.func5, Tryz.ntmps5
  go_wp2_with fail
  all_goals (go_ret; exact ⟨by simp [w1, w2, w3, h2], rfl⟩)
end Go.Proofs.YtdddcncjmnekcaaGreatDoor

/- An argument of the type []api.Member is a list of members of ours. -/
set_option linter.unusedVariables false
namespace Go.Proofs.YtdddcncjmnekcaaGreatDoor
open Go.ChangeShapes Go.WideShapes Go.ChangeAt Go.RowKit Pl

theorem cell_lt {W : World} {g o : Nat} {x : Value} (h : W.cell? ⟨g, o, none⟩ = some x) : g < W.heap.size := by
  rcases Nat.lt_or_ge g W.heap.size with hlt | hge
  · exact hlt
  · unfold World.cell? at h
    rw [Array.getElem?_eq_none hge] at h
    simp at h
theorem ms_val {W : World} {v : Value} (h : Sh.Val W (.slice 2 (.pair .str (.pair (.int .i64) .unit))) v) : ∃ l : List (Bs × Int), MS W v l := by
  rcases (show _ ∨ _ from h) with h | ⟨a, len, cap, hv, hlc, hcm, hel⟩
  · obtain rfl : v = .slice none 0 0 := by simpa using h
    exact ⟨[], none, 0, rfl, Nat.le_refl _, by unfold maxLen; omega, fun h => absurd rfl h⟩
  · obtain rfl : v = .slice (some a) len cap := by simpa using hv
    rcases Nat.eq_zero_or_pos len with h0 | hpos
    · subst h0
      exact ⟨[], some a, cap, rfl, hlc, hcm, fun h => absurd rfl h⟩
    · obtain ⟨hs, hc⟩ := slice_cells (by decide) hpos hel
      have hf : ∀ i, ∃ x : Bs × Int, i < len → W.cell? ⟨a.block, a.off + i * 2, none⟩ = some (.string ⟨List.toArray (x.1)⟩) ∧ W.cell? ⟨a.block, a.off + i * 2 + 1, none⟩ = some (.int .i64 (x.2)) := by
        intro i
        by_cases hi : i < len
        · obtain ⟨cs, ⟨x, y, rfl, ⟨s, rfl, _⟩, z, u, rfl, ⟨n, rfl, _⟩, hu⟩, _, hj⟩ := hc i hi
          have h0 := hj 0 (by decide)
          have h1 := hj 1 (by decide)
          refine ⟨(s.data.toList, n), fun _ => ⟨?_, ?_⟩⟩
          · rw [← str_list s]
            simpa using h0
          · simpa using h1
        · exact ⟨([], 0), fun h => absurd h hi⟩
      obtain ⟨f, hf⟩ := Classical.axiomOfChoice hf
      obtain ⟨b, off, sp⟩ := a
      simp only at hs
      subst hs
      refine ⟨(List.range len).map f, some ⟨b, off, none⟩, cap, by simp, by simpa using hlc, hcm, fun _ => ⟨b, off, rfl, cell_lt (hf 0 hpos).1, fun i hi => ?_⟩⟩
      have hi' : i < len := by simpa using hi
      have hg : ((List.range len).map f).getD i ([], 0) = f i := by simp [List.getD, hi']
      rw [hg]
      exact hf i hi'
theorem ss_val {W : World} {v : Value} (h : Sh.Val W (.slice 1 .str) v) : ∃ l : List Bs, SS W v l ∧ ∀ i, i < l.length → (l.getD i []).length ≤ maxLen := by
  rcases (show _ ∨ _ from h) with h | ⟨a, len, cap, hv, hlc, hcm, hel⟩
  · obtain rfl : v = .slice none 0 0 := by simpa using h
    exact ⟨[], SS.nil W, fun i hi => by simp at hi⟩
  · obtain rfl : v = .slice (some a) len cap := by simpa using hv
    rcases Nat.eq_zero_or_pos len with h0 | hpos
    · subst h0
      exact ⟨[], ⟨some a, cap, rfl, hlc, hcm, fun h => absurd rfl h⟩, fun i hi => by simp at hi⟩
    · obtain ⟨hs, hc⟩ := slice_cells (by decide) hpos hel
      have hf : ∀ i, ∃ x : Bs, i < len → W.cell? ⟨a.block, a.off + i, none⟩ = some (.string ⟨List.toArray (x)⟩) ∧ x.length ≤ maxLen := by
        intro i
        by_cases hi : i < len
        · obtain ⟨cs, ⟨s, rfl, hsl⟩, _, hj⟩ := hc i hi
          have h0 := hj 0 (by decide)
          refine ⟨s.data.toList, fun _ => ⟨?_, by rw [Array.length_toList]; exact hsl⟩⟩
          rw [← str_list s]
          simpa using h0
        · exact ⟨[], fun h => absurd h hi⟩
      obtain ⟨f, hf⟩ := Classical.axiomOfChoice hf
      obtain ⟨b, off, sp⟩ := a
      simp only at hs
      subst hs
      have hg : ∀ i, i < len → ((List.range len).map f).getD i [] = f i := fun i hi => by simp [List.getD, hi]
      refine ⟨(List.range len).map f, ⟨some ⟨b, off, none⟩, cap, by simp, by simpa using hlc, hcm, fun _ => ⟨b, off, rfl, cell_lt (hf 0 hpos).1, fun i hi => ?_⟩⟩, fun i hi => ?_⟩
      · have hi' : i < len := by simpa using hi
        rw [hg i hi']
        exact (hf i hi').1
      · have hi' : i < len := by simpa using hi
        rw [hg i hi']
        exact (hf i hi').2
end Go.Proofs.YtdddcncjmnekcaaGreatDoor

/- Acts done to a store: lists of them that are read; the text of one. -/
set_option linter.unusedSimpArgs false
set_option linter.unusedVariables false
namespace Go.Proofs.YtdddcncjmnekcaaGreatDoor
open Go.ChangeShapes Go.WideShapes Go.ChangeAt Go.RowKit Pl

abbrev ActP := Int × Bs × Int × Int
abbrev act0 : ActP := (0, [], 0, 0)
def ASrc (w : World) (g o : Nat) (l : List ActP) : Prop := ∀ i, i < l.length → w.cell? ⟨g, o + i * 4, none⟩ = some (.int .i64 ((l.getD i act0).1)) ∧ w.cell? ⟨g, o + i * 4 + 1, none⟩ = some (.string ⟨List.toArray ((l.getD i act0).2.1)⟩) ∧
  w.cell? ⟨g, o + i * 4 + 2, none⟩ = some (.int .i64 ((l.getD i act0).2.2.1)) ∧ w.cell? ⟨g, o + i * 4 + 3, none⟩ = some (.int .i64 ((l.getD i act0).2.2.2))
def AS (w : World) (v : Value) (l : List ActP) : Prop :=
  ∃ a cap, v = .slice a l.length cap ∧ l.length ≤ cap ∧ cap ≤ maxLen ∧ (l ≠ [] → ∃ g off, a = some ⟨g, off, none⟩ ∧ g < w.heap.size ∧ ASrc w g off l)
def AShort (l : List ActP) : Prop := ∀ i, (l.getD i act0).2.1.length ≤ maxLen
theorem AS.keep {W w : World} {v : Value} {l : List ActP} (h : AS W v l) (hb : Below W.heap.size W w) : AS w v l := by
  obtain ⟨a, cap, h1, h2, h3, h4⟩ := h
  refine ⟨a, cap, h1, h2, h3, fun hl => ?_⟩
  obtain ⟨g, off, e, hg, hc⟩ := h4 hl
  exact ⟨g, off, e, Nat.lt_of_lt_of_le hg hb.size, fun i hi => ⟨(hb.cell (p := ⟨g, off + i * 4, none⟩) hg).trans (hc i hi).1, (hb.cell (p := ⟨g, off + i * 4 + 1, none⟩) hg).trans (hc i hi).2.1, (hb.cell (p := ⟨g, off + i * 4 + 2, none⟩) hg).trans (hc i hi).2.2.1, (hb.cell (p := ⟨g, off + i * 4 + 3, none⟩) hg).trans (hc i hi).2.2.2⟩⟩
theorem AS.form {w : World} {v : Value} {l : List ActP} (h : AS w v l) : ∃ a c, v = .slice a l.length c := by
  obtain ⟨a, cap, h1, _⟩ := h
  exact ⟨a, cap, h1⟩
theorem AS.small {w : World} {v : Value} {l : List ActP} (h : AS w v l) : l.length ≤ 9223372036854775807 := by
  obtain ⟨a, cap, h1, h2, h3, _⟩ := h
  unfold maxLen at h3; omega
theorem AS.at {w : World} {v : Value} {l : List ActP} (h : AS w v l) (i : Nat) (hi : i < l.length) :
    ∃ g off cap, v = .slice (some ⟨g, off, none⟩) l.length cap ∧ g < w.heap.size ∧ w.cell? ⟨g, off + i * 4, none⟩ = some (.int .i64 ((l.getD i act0).1)) ∧ w.cell? ⟨g, off + i * 4 + 1, none⟩ = some (.string ⟨List.toArray ((l.getD i act0).2.1)⟩) ∧
  w.cell? ⟨g, off + i * 4 + 2, none⟩ = some (.int .i64 ((l.getD i act0).2.2.1)) ∧ w.cell? ⟨g, off + i * 4 + 3, none⟩ = some (.int .i64 ((l.getD i act0).2.2.2)) := by
  obtain ⟨a', cap, h1, _, _, h5⟩ := h
  obtain ⟨g, off, e, hg, hc⟩ := h5 (by intro e; rw [e] at hi; simp at hi)
  exact ⟨g, off, cap, by rw [h1, e], hg, (hc i hi).1, (hc i hi).2.1, (hc i hi).2.2.1, (hc i hi).2.2.2⟩
/-- The text of an act. -/
def textA (x : ActP) (sums : List Bs) : Bs :=
  if x.1 ≠ 1 ∨ sums = [] then x.2.1.take 200 else [3, 128, 1] ++ sums.getD (modN x.2.2.1 sums.length) [] ++ sums.getD (modN x.2.2.2 sums.length) [] ++ [0]
theorem text_out {x : ActP} {sums : List Bs} (h : x.1 ≠ 1 ∨ sums = []) : textA x sums = x.2.1.take 200 := if_pos h
theorem text_in {x : ActP} {sums : List Bs} (h : ¬ (x.1 ≠ 1 ∨ sums = [])) : textA x sums = [3, 128, 1] ++ sums.getD (modN x.2.2.1 sums.length) [] ++ sums.getD (modN x.2.2.2 sums.length) [] ++ [0] := if_neg h
set_option maxRecDepth 100000 in
set_option maxHeartbeats 1000000 in
theorem text_any (k : Int) (t : Bs) (a b : Int) (ht : t.length ≤ maxLen) (sv0 : Value) (sums : List Bs) (hsn : sums.length ≤ 1000000) (hsl : ∀ x ∈ sums, x.length ≤ 1000) (w : World) (hs : SS w sv0 sums) :
    Calls Tryz.prog 12 #[.agg #[.int .i64 (k), .string ⟨List.toArray (t)⟩, .int .i64 (a), .int .i64 (b)], sv0] w fun e w' => e = .returned (.string ⟨List.toArray (textA (k, t, a, b) sums)⟩) ∧ Below w.heap.size w w' := by
  obtain ⟨sa, sc, rfl⟩ := hs.form
  have ht' : t.length ≤ 9223372036854775807 := by unfold maxLen at ht; omega
  have hb0 : Below w.heap.size w (w.alloc (.cells #[.int .i64 (k), .string ⟨List.toArray (t)⟩, .int .i64 (a), .int .i64 (b)] 30)) := Below.allocS (Below.refl _ _) _
  have B0 : Blk (w.alloc (.cells #[.int .i64 (k), .string ⟨List.toArray (t)⟩, .int .i64 (a), .int .i64 (b)] 30)) w.heap.size #[.int .i64 (k), .string ⟨List.toArray (t)⟩, .int .i64 (a), .int .i64 (b)] := Blk.new _ _ _
  by_cases hout : k ≠ 1 ∨ sums = []
  · rw [text_out (x := (k, t, a, b)) hout]
    have hcut := cut_any t 200 ht'
    clear hs
    by_cases h1 : k = 1
    · subst h1
      have h0 : sums = [] := by rcases hout with h | h; exact absurd rfl h; exact h
      subst h0
      clear hout
      go_enter Tryz.func12, Tryz.ntmps12
      go_wp2_with fail
      refine (hcut _).mono ?_
      rintro e w1 ⟨rfl, hb⟩
      go_wp2_with fail
      all_goals (go_ret; exact ⟨rfl, hb0.trans (hb.mono hb0.size)⟩)
    · have e1 : (k != 1) = true := by simpa using h1
      clear hout
      go_enter Tryz.func12, Tryz.ntmps12
      go_wp2_with fail
      refine (hcut _).mono ?_
      rintro e w1 ⟨rfl, hb⟩
      go_wp2_with fail
      all_goals (go_ret; exact ⟨rfl, hb0.trans (hb.mono hb0.size)⟩)
  · rw [text_in (x := (k, t, a, b)) hout]
    have h1 : k = 1 := Classical.byContradiction fun h => hout (.inl h)
    have h0 : sums ≠ [] := fun h => hout (.inr h)
    subst h1
    clear hout
    have hpos : 0 < sums.length := List.length_pos_iff.2 h0
    have e1 : ((sums.length : Int) == 0) = false := by simp; omega
    have hba := below_any a sums.length hpos (by omega)
    have hbb := below_any b sums.length hpos (by omega)
    have hma := modN_lt a sums.length hpos
    have hmb := modN_lt b sums.length hpos
    simp only
    generalize modN a sums.length = m at *
    generalize modN b sums.length = n at *
    obtain ⟨g, off, rfl, hg, q0⟩ := hs.at' m hma
    obtain ⟨g', off', e, _, q1⟩ := hs.at' n hmb
    injection e with e
    injection e with e2 e3 _
    subst e2 e3
    have hgm : ∀ i, i < sums.length → (sums.getD i []).length ≤ 1000 := fun i hi => hsl _ (by rw [List.getD_eq_getElem?_getD, List.getElem?_eq_getElem hi]; exact List.getElem_mem _)
    have hxl := hgm m hma
    have hyl := hgm n hmb
    clear hgm hsl
    generalize sums.getD m [] = x at *
    generalize sums.getD n [] = y at *
    have i0 : 0 ≤ (m : Int) ∧ (m : Int) < (sums.length : Int) := by omega
    have i1 : 0 ≤ (n : Int) ∧ (n : Int) < (sums.length : Int) := by omega
    clear hs h0
    go_enter Tryz.func12, Tryz.ntmps12
    go_wp2_with fail
    refine wpH_start (by kernel_rfl) (fun hS => ?_)
    (refine wpH_pure 0 ?_ (oi := { dst := some 18, op := Op.move (Operand.tmp 1), type := 26, pos := "law.go:23", after := #[], guard := none }) rfl (by kernel_rfl) (by kernel_rfl) (by kernel_rfl) (by rfl) hS (fun _ _ _ h => h) ?_ ?_; rotate_left; focus (intro w; go_simp; try with_reducible rfl))
    try simp only [Act.put, List.setIfInBounds_toArray, List.set_cons_zero, List.set_cons_succ]
    (refine wpH_pure 1 ?_ (oi := { dst := some 19, op := Op.fieldAddr 30 (Operand.tmp 2) 2, type := 0, pos := "law.go:23", after := #[], guard := none }) rfl (by kernel_rfl) (by kernel_rfl) (by kernel_rfl) (by rfl) hS (fun _ _ _ h => h) ?_ ?_; rotate_left; focus (intro w; go_simp; try with_reducible rfl))
    try simp only [Act.put, List.setIfInBounds_toArray, List.set_cons_zero, List.set_cons_succ]
    (refine wpH_pure 2 ?_ (oi := { dst := some 20, op := Op.indexAddr 28 (Operand.tmp 19) (Operand.const (Value.int IntKind.i64 0)), type := 0, pos := "law.go:23", after := #[{ on := 1, ground := Ground.data }], guard := none }) rfl (by kernel_rfl) (by kernel_rfl) (by kernel_rfl) (by rfl) hS (fun _ _ _ h => h) ?_ ?_; rotate_left; focus (intro w; go_simp; try with_reducible rfl))
    try simp only [Act.put, List.setIfInBounds_toArray, List.set_cons_zero, List.set_cons_succ]
    refine wpH_load 3 (.int .i64 (a)) (oi := { dst := some 21, op := Op.load 3 (Operand.tmp 20), type := 3, pos := "law.go:23", after := #[{ on := 2, ground := Ground.data }], guard := none }) rfl (by kernel_rfl) (by kernel_rfl) (by kernel_rfl) (by rfl) hS (fun _ _ _ h => h) (fun w hb2 => (by have c := (B0.keep hb2).cell 2; go_simp; try rfl)) ?_
    try simp only [Act.put, List.setIfInBounds_toArray, List.set_cons_zero, List.set_cons_succ]
    (refine wpH_pure 4 ?_ (oi := { dst := some 22, op := Op.move (Operand.tmp 1), type := 26, pos := "law.go:23", after := #[], guard := none }) rfl (by kernel_rfl) (by kernel_rfl) (by kernel_rfl) (by rfl) hS (fun _ _ _ h => h) ?_ ?_; rotate_left; focus (intro w; go_simp; try with_reducible rfl))
    try simp only [Act.put, List.setIfInBounds_toArray, List.set_cons_zero, List.set_cons_succ]
    (refine wpH_pure 5 ?_ (oi := { dst := some 23, op := Op.call { callee := Callee.builtin Builtin.len, args := #[Operand.tmp 22], argTypes := #[26] }, type := 3, pos := "law.go:23", after := #[{ on := 4, ground := Ground.data }], guard := none }) rfl (by kernel_rfl) (by kernel_rfl) (by kernel_rfl) (by rfl) hS (fun _ _ _ h => h) ?_ ?_; rotate_left; focus (intro w; go_simp; try with_reducible rfl))
    try simp only [Act.put, List.setIfInBounds_toArray, List.set_cons_zero, List.set_cons_succ]
    (refine wpH_pure 9 ?_ (oi := { dst := some 27, op := Op.move (Operand.tmp 1), type := 26, pos := "law.go:23", after := #[{ on := 18, ground := Ground.gcOnly Departure.lateStores }], guard := none }) rfl (by kernel_rfl) (by kernel_rfl) (by kernel_rfl) (by rfl) hS (fun _ _ _ h => h) ?_ ?_; rotate_left; focus (intro w; go_simp; try with_reducible rfl))
    try simp only [Act.put, List.setIfInBounds_toArray, List.set_cons_zero, List.set_cons_succ]
    (refine wpH_pure 10 ?_ (oi := { dst := some 28, op := Op.fieldAddr 30 (Operand.tmp 2) 2, type := 0, pos := "law.go:23", after := #[], guard := none }) rfl (by kernel_rfl) (by kernel_rfl) (by kernel_rfl) (by rfl) hS (fun _ _ _ h => h) ?_ ?_; rotate_left; focus (intro w; go_simp; try with_reducible rfl))
    try simp only [Act.put, List.setIfInBounds_toArray, List.set_cons_zero, List.set_cons_succ]
    (refine wpH_pure 11 ?_ (oi := { dst := some 29, op := Op.indexAddr 28 (Operand.tmp 28) (Operand.const (Value.int IntKind.i64 1)), type := 0, pos := "law.go:23", after := #[{ on := 10, ground := Ground.data }], guard := none }) rfl (by kernel_rfl) (by kernel_rfl) (by kernel_rfl) (by rfl) hS (fun _ _ _ h => h) ?_ ?_; rotate_left; focus (intro w; go_simp; try with_reducible rfl))
    try simp only [Act.put, List.setIfInBounds_toArray, List.set_cons_zero, List.set_cons_succ]
    refine wpH_load 12 (.int .i64 (b)) (oi := { dst := some 30, op := Op.load 3 (Operand.tmp 29), type := 3, pos := "law.go:23", after := #[{ on := 11, ground := Ground.data }], guard := none }) rfl (by kernel_rfl) (by kernel_rfl) (by kernel_rfl) (by rfl) hS (fun _ _ _ h => h) (fun w hb2 => (by have c := (B0.keep hb2).cell 3; go_simp; try rfl)) ?_
    try simp only [Act.put, List.setIfInBounds_toArray, List.set_cons_zero, List.set_cons_succ]
    (refine wpH_pure 13 ?_ (oi := { dst := some 31, op := Op.move (Operand.tmp 1), type := 26, pos := "law.go:23", after := #[], guard := none }) rfl (by kernel_rfl) (by kernel_rfl) (by kernel_rfl) (by rfl) hS (fun _ _ _ h => h) ?_ ?_; rotate_left; focus (intro w; go_simp; try with_reducible rfl))
    try simp only [Act.put, List.setIfInBounds_toArray, List.set_cons_zero, List.set_cons_succ]
    (refine wpH_pure 14 ?_ (oi := { dst := some 32, op := Op.call { callee := Callee.builtin Builtin.len, args := #[Operand.tmp 31], argTypes := #[26] }, type := 3, pos := "law.go:23", after := #[{ on := 13, ground := Ground.data }], guard := none }) rfl (by kernel_rfl) (by kernel_rfl) (by kernel_rfl) (by rfl) hS (fun _ _ _ h => h) ?_ ?_; rotate_left; focus (intro w; go_simp; try with_reducible rfl))
    try simp only [Act.put, List.setIfInBounds_toArray, List.set_cons_zero, List.set_cons_succ]
    refine wpH_call 6 (oi := { dst := some 24, op := Op.call { callee := Callee.value (Operand.func 5), args := #[Operand.tmp 21, Operand.tmp 23], argTypes := #[3, 3] }, type := 3, pos := "law.go:23", after := #[{ on := 3, ground := Ground.data }, { on := 5, ground := Ground.data }], guard := none }) rfl (by kernel_rfl) (by rfl) (hba _) ?_ ?_
    · (go_simp; try rfl)
    rintro e w' ⟨rfl, rfl⟩
    refine ⟨_, rfl, hS, ?_⟩
    try simp only [Act.put, List.setIfInBounds_toArray, List.set_cons_zero, List.set_cons_succ]
    (refine wpH_pure 7 ?_ (oi := { dst := some 25, op := Op.indexAddr 26 (Operand.tmp 18) (Operand.tmp 24), type := 0, pos := "law.go:23", after := #[{ on := 0, ground := Ground.data }, { on := 6, ground := Ground.data }], guard := none }) rfl (by kernel_rfl) (by kernel_rfl) (by kernel_rfl) (by rfl) hS (fun _ _ _ h => h) ?_ ?_; rotate_left; focus (intro w; go_simp; try with_reducible rfl))
    try simp only [Act.put, List.setIfInBounds_toArray, List.set_cons_zero, List.set_cons_succ]
    refine wpH_load 8 (.string ⟨List.toArray (x)⟩) (oi := { dst := some 26, op := Op.load 9 (Operand.tmp 25), type := 9, pos := "law.go:23", after := #[{ on := 7, ground := Ground.data }], guard := none }) rfl (by kernel_rfl) (by kernel_rfl) (by kernel_rfl) (by rfl) hS (fun _ _ _ h => h) (fun w hb2 => (by have c := ((hb0.trans (hb2.mono hb0.size)).cell (p := ⟨g, off + m, none⟩) hg).trans q0; go_simp; try rfl)) ?_
    try simp only [Act.put, List.setIfInBounds_toArray, List.set_cons_zero, List.set_cons_succ]
    refine wpH_call 15 (oi := { dst := some 33, op := Op.call { callee := Callee.value (Operand.func 5), args := #[Operand.tmp 30, Operand.tmp 32], argTypes := #[3, 3] }, type := 3, pos := "law.go:23", after := #[{ on := 12, ground := Ground.data }, { on := 14, ground := Ground.data }, { on := 6, ground := Ground.chain }], guard := none }) rfl (by kernel_rfl) (by rfl) (hbb _) ?_ ?_
    · (go_simp; try rfl)
    rintro e w' ⟨rfl, rfl⟩
    refine ⟨_, rfl, hS, ?_⟩
    try simp only [Act.put, List.setIfInBounds_toArray, List.set_cons_zero, List.set_cons_succ]
    (refine wpH_pure 16 ?_ (oi := { dst := some 34, op := Op.indexAddr 26 (Operand.tmp 27) (Operand.tmp 33), type := 0, pos := "law.go:23", after := #[{ on := 9, ground := Ground.data }, { on := 15, ground := Ground.data }, { on := 18, ground := Ground.gcOnly Departure.lateStores }], guard := none }) rfl (by kernel_rfl) (by kernel_rfl) (by kernel_rfl) (by rfl) hS (fun _ _ _ h => h) ?_ ?_; rotate_left; focus (intro w; go_simp; try with_reducible rfl))
    try simp only [Act.put, List.setIfInBounds_toArray, List.set_cons_zero, List.set_cons_succ]
    refine wpH_load 17 (.string ⟨List.toArray (y)⟩) (oi := { dst := some 35, op := Op.load 9 (Operand.tmp 34), type := 9, pos := "law.go:23", after := #[{ on := 16, ground := Ground.data }, { on := 18, ground := Ground.gcOnly Departure.lateStores }], guard := none }) rfl (by kernel_rfl) (by kernel_rfl) (by kernel_rfl) (by rfl) hS (fun _ _ _ h => h) (fun w hb2 => (by have c := ((hb0.trans (hb2.mono hb0.size)).cell (p := ⟨g, off + n, none⟩) hg).trans q1; go_simp; try rfl)) ?_
    try simp only [Act.put, List.setIfInBounds_toArray, List.set_cons_zero, List.set_cons_succ]
    (refine wpH_pure 18 ?_ (oi := { dst := some 5, op := Op.assign (Operand.tmp 26), type := 9, pos := "law.go:23", after := #[{ on := 8, ground := Ground.data }, { on := 15, ground := Ground.chain }, { on := 0, ground := Ground.phase }, { on := 1, ground := Ground.phase }, { on := 2, ground := Ground.phase }, { on := 3, ground := Ground.phase }, { on := 4, ground := Ground.phase }, { on := 5, ground := Ground.phase }, { on := 6, ground := Ground.phase }, { on := 7, ground := Ground.phase }, { on := 8, ground := Ground.phase }, { on := 9, ground := Ground.textOnly Departure.lateStores }, { on := 10, ground := Ground.textOnly Departure.lateStores }, { on := 11, ground := Ground.textOnly Departure.lateStores }, { on := 12, ground := Ground.textOnly Departure.lateStores }, { on := 13, ground := Ground.textOnly Departure.lateStores }, { on := 14, ground := Ground.textOnly Departure.lateStoresUnsure }, { on := 15, ground := Ground.textOnly Departure.lateStoresUnsure }, { on := 16, ground := Ground.textOnly Departure.lateStores }, { on := 17, ground := Ground.textOnly Departure.lateStores }], guard := none }) rfl (by kernel_rfl) (by kernel_rfl) (by kernel_rfl) (by rfl) hS (fun _ _ _ h => h) ?_ ?_; rotate_left; focus (intro w; go_simp; try with_reducible rfl))
    try simp only [Act.put, List.setIfInBounds_toArray, List.set_cons_zero, List.set_cons_succ]
    (refine wpH_pure 19 ?_ (oi := { dst := some 6, op := Op.assign (Operand.tmp 35), type := 9, pos := "law.go:23", after := #[{ on := 17, ground := Ground.data }, { on := 18, ground := Ground.chain }, { on := 0, ground := Ground.phase }, { on := 1, ground := Ground.phase }, { on := 2, ground := Ground.phase }, { on := 3, ground := Ground.phase }, { on := 4, ground := Ground.phase }, { on := 5, ground := Ground.phase }, { on := 6, ground := Ground.phase }, { on := 7, ground := Ground.phase }, { on := 8, ground := Ground.phase }, { on := 9, ground := Ground.phase }, { on := 10, ground := Ground.phase }, { on := 11, ground := Ground.phase }, { on := 12, ground := Ground.phase }, { on := 13, ground := Ground.phase }, { on := 14, ground := Ground.phase }, { on := 15, ground := Ground.phase }, { on := 16, ground := Ground.phase }, { on := 17, ground := Ground.phase }, { on := 18, ground := Ground.phase }], guard := none }) rfl (by kernel_rfl) (by kernel_rfl) (by kernel_rfl) (by rfl) hS (fun _ _ _ h => h) ?_ ?_; rotate_left; focus (intro w; go_simp; try with_reducible rfl))
    try simp only [Act.put, List.setIfInBounds_toArray, List.set_cons_zero, List.set_cons_succ]
    refine wpAnyH_done (by kernel_rfl) ?_ _
    all_goals go_wp2_with fail
    all_goals first | (exfalso; omega) | (go_ret; exact ⟨by simp, hb0.trans (hS.mono hb0.size)⟩)
end Go.Proofs.YtdddcncjmnekcaaGreatDoor

/- What holds between the acts of StorePlays; the document's Put, whether the sum is there or not. -/
set_option linter.unusedSimpArgs false
set_option linter.unusedVariables false
namespace Go.Proofs.YtdddcncjmnekcaaGreatDoor
open Go.RowKit Go.WideMaps Go.Maps Go.Sort Go.Shelf Pl

theorem SRow.notmap {w : World} {base b : Nat} {v : Value} {l : List Bs} (h : SRow w base v l) (hm : ∃ es c, w.heap[b]? = some (Obj.map es c)) : ∀ k, v.ownBlock = some k → some b ≠ some k := by
  intro k hk e
  injection e with e
  subst e
  obtain ⟨es, c, hm⟩ := hm
  rcases h.2 with ⟨e, _⟩ | ⟨g, cap, cur, e, _, hg, _⟩
  · subst e; cases hk
  · subst e
    cases hk
    rw [hm] at hg
    cases hg
theorem NRow.lt {w : World} {base : Nat} {v : Value} {l : List (Bs × Bs)} (h : NRow w base v l) : ∀ k, v.ownBlock = some k → k < w.heap.size := by
  intro k hk
  rcases h.cells with ⟨rfl, _⟩ | ⟨g, cap, rfl, _, hg, _⟩
  · cases hk
  · cases hk; exact hg
theorem NRow.notmap {w : World} {base b : Nat} {v : Value} {l : List (Bs × Bs)} (h : NRow w base v l) (hm : ∃ es c, w.heap[b]? = some (Obj.map es c)) : ∀ k, v.ownBlock = some k → some b ≠ some k := by
  intro k hk e
  injection e with e
  subst e
  obtain ⟨es, c, hm⟩ := hm
  rcases h.2 with ⟨e, _⟩ | ⟨g, cap, cur, e, _, hg, _⟩
  · subst e; cases hk
  · subst e
    cases hk
    rw [hm] at hg
    cases hg
theorem NRow.grown {w w' : World} {base : Nat} {row : Option Nat} {v : Value} {l : List (Bs × Bs)} (h : NRow w base v l) (hg : w.grownBy w' row) (hn : ∀ k, v.ownBlock = some k → row ≠ some k) : NRow w' base v l :=
  h.kept (fun k hk => hg.block k (h.lt k hk) (fun e => hn k hk e.symm))
theorem NRow.notstr {w : World} {base : Nat} {v : Value} {l : List (Bs × Bs)} (h : NRow w base v l) {r : Option Nat} (hr : ∀ k, r = some k → ∃ c fz, w.heap[k]? = some (Obj.cells c 9 fz)) : ∀ k, v.ownBlock = some k → r ≠ some k := by
  intro k hk e
  obtain ⟨c, fz, hm⟩ := hr k e
  rcases h.2 with ⟨e2, _⟩ | ⟨g, cap, cur, e2, _, hg, _⟩
  · subst e2; cases hk
  · subst e2
    cases hk
    rw [hm] at hg
    injection hg with hg
    injection hg with _ hg _
    exact absurd hg (by decide)
/-- What holds between the acts. -/
structure PlI (B : Nat) (w0 w : World) (p b : Nat) (v6 v7 : Value) (T : List Ent) (D : List It) (X : List Bs) : Prop where
  sto : Sto w B p b T
  nrow : NRow w B v6 D
  srow : SRow w B v7 X
  sd : SD T D
  x32 : ∀ x ∈ X, x.length = 32
  below : Below B w0 w
  le : B ≤ w.heap.size
namespace PlI
variable {B : Nat} {w0 w w' : World} {p b : Nat} {v6 v7 : Value} {T : List Ent} {D : List It} {X : List Bs}
theorem keep (h : PlI B w0 w p b v6 v7 T D X) (hb : Below w.heap.size w w') : PlI B w0 w' p b v6 v7 T D X :=
  ⟨h.sto.keep hb, h.nrow.keep hb, h.srow.keep hb, h.sd, h.x32, h.below.trans (hb.mono h.le), Nat.le_trans h.le hb.size⟩
theorem grown (h : PlI B w0 w p b v6 v7 T D X) {T' : List Ent} {D' : List It} (hg : w.grownBy w' (some b)) (hs : Sto w' B p b T') (v6' : Value) (hn : NRow w B v6' D') (hd : SD T' D') : PlI B w0 w' p b v6' v7 T' D' X :=
  ⟨hs, hn.grown hg (hn.notmap h.sto.map), h.srow.grown hg (h.srow.notmap h.sto.map), hd, h.x32, h.below.trans (grown_below hg h.le (fun k hk => by injection hk with hk; have := h.sto.hb; omega)), Nat.le_trans h.le hg.size⟩
/-- Another store beside it is changed. -/
theorem beside (h : PlI B w0 w p b v6 v7 T D X) {b2 : Nat} (hg : w.grownBy w' (some b2)) (hm : ∃ es c, w.heap[b2]? = some (Obj.map es c)) (hne : b ≠ b2) (hB : B ≤ b2) : PlI B w0 w' p b v6 v7 T D X :=
  ⟨h.sto.turned hg hm hne, h.nrow.grown hg (h.nrow.notmap hm), h.srow.grown hg (h.srow.notmap hm), h.sd, h.x32, h.below.trans (grown_below hg h.le (fun k hk => by injection hk with hk; omega)), Nat.le_trans h.le hg.size⟩
theorem kt (h : PlI B w0 w p b v6 v7 T D X) (hk : KT w0) (hB : w0.heap.size ≤ B) : KT w := hk.keep (h.below.mono hB)
end PlI

/-- The document's list behind a Put. -/
def putD (D : List It) (t : Bs) : List It := if hereI (tagP 1 t) D then D else insI (tagP 1 t) t D
theorem dput_any (B : Nat) (val : Value) (D : List It) (t : Bs) (ht : t.length ≤ 1000) (hl : D.length ≤ 1000000) (w : World) (hB : B ≤ w.heap.size) (hv : NRow w B val D) :
    Calls Tryz.prog 13 #[val, .string ⟨List.toArray (t)⟩] w fun e w' => ∃ v, e = .returned (.tuple #[v, .string ⟨List.toArray (tagP 1 t)⟩]) ∧ NRow w' B v (putD D t) ∧ Below w.heap.size w w' := by
  unfold putD
  cases hh : hereI (tagP 1 t) D
  · refine (dput_new B val D t ht hh hl w hv).mono ?_
    rintro e w' ⟨v, rfl, hr, hb⟩
    exact ⟨v, rfl, by simpa using NRow.low hr hB, hb⟩
  · refine (dput_there val D t ht hh w hv.nl).mono ?_
    rintro e w' ⟨rfl, hb⟩
    exact ⟨val, rfl, by simpa using hv.keep hb, hb⟩
theorem srow_one {w : World} {base g : Nat} {a : Bs} (hg : base ≤ g) (hh : w.heap[g]? = some (.cells #[.string ⟨List.toArray (a)⟩] 9)) : SRow w base (.slice (some ⟨g, 0, none⟩) 1 1) [a] :=
  ⟨rfl, .inr ⟨g, 1, _, rfl, hg, hh, Nat.le_refl _, by unfold maxLen; omega, rfl, rfl⟩⟩
theorem ssrc_two {w : World} {g : Nat} {a b : Bs} (hh : w.heap[g]? = some (.cells #[.string ⟨List.toArray (a)⟩, .string ⟨List.toArray (b)⟩] 9)) : SSrc w g 0 [a, b] := by
  intro i hi
  rcases i with _ | _ | i
  · simp [World.cell?, hh]
  · simp [World.cell?, hh]
  · simp only [List.length_cons, List.length_nil] at hi; omega
theorem SRow.past9 {w w' : World} {base b : Nat} {v : Value} {l : List Bs} (h : SRow w base v l) (hg : w.grownBy w' (some b)) (hb : b < base) : SRow w' base v l :=
  h.grown hg (fun k hk e => by have := h.own k hk; injection e with e; omega)
theorem Lent.past {w w' : World} {base b : Nat} {v : Value} {l : List Bs} (h : Lent w base v l) (hg : w.grownBy w' (some b)) (hb : b < base) : Lent w' base v l := by
  obtain ⟨g, cap, e, hr⟩ := h
  exact ⟨g, cap, e, hr.past9 hg hb⟩
theorem Lent.row {w : World} {base : Nat} {v : Value} {l : List Bs} (h : Lent w base v l) : SRow w base v l := by
  obtain ⟨g, cap, rfl, hr⟩ := h
  exact hr.dropLast
theorem below_anyB9 (x : Int) (n : Nat) (h0 : 0 < n) (hn : n ≤ 1000000000) (w : World) :
    Calls Tryz.prog 5 #[.int .i64 (x), .int .i64 ((n : Int))] w fun e w' => e = .returned (.int .i64 ((modN x n : Int))) ∧ Below w.heap.size w w' :=
  (below_any x n h0 hn w).mono fun _ _ ⟨h, e⟩ => ⟨h, e ▸ Below.refl _ _⟩
theorem textA_short {X : List Bs} (h : ∀ x ∈ X, x.length = 32) (x : ActP) : (textA x X).length ≤ 1000 := by
  by_cases hc : x.1 ≠ 1 ∨ X = []
  · rw [text_out hc, List.length_take]
    omega
  · rw [text_in hc]
    have h0 : 0 < X.length := List.length_pos_iff.2 (fun e => hc (.inr e))
    have hm : ∀ i, i < X.length → (X.getD i []).length = 32 := fun i hi => h _ (by rw [List.getD_eq_getElem?_getD, List.getElem?_eq_getElem hi]; exact List.getElem_mem _)
    have h1 := hm _ (modN_lt x.2.2.1 X.length h0)
    have h2 := hm _ (modN_lt x.2.2.2 X.length h0)
    simp only [List.length_append, List.length_cons, List.length_nil, h1, h2]
    omega
def oldT : Bs := [97, 110, 32, 111, 108, 100, 32, 115, 116, 111, 114, 101, 32, 116, 104, 97, 116, 32, 103, 111, 101, 115, 32, 111, 110]
theorem oldT_len : oldT.length ≤ 1000 := by decide
end Go.Proofs.YtdddcncjmnekcaaGreatDoor
