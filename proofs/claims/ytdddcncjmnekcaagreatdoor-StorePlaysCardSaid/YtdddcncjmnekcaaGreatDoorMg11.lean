/- CertC, CheckC, Gather, ShaC, Marks, MWorks, Works7, Sign, Over, OkP. -/
import Derived.Test.YtdddcncjmnekcaaGreatDoorMg3
import Derived.Test.YtdddcncjmnekcaaGreatDoorMg8
import Derived.Test.YtdddcncjmnekcaaGreatDoorMg9
import Derived.Test.YtdddcncjmnekcaaGreatDoorMg10
set_option linter.unnecessarySimpa false

/- Certificates as bytes, and again: the program's and the document's. -/
set_option linter.unusedSimpArgs false
set_option linter.unusedVariables false
namespace Go.Proofs.YtdddcncjmnekcaaGreatDoor
open Go.RowKit Pl

namespace Pl
def encC (d : Bs) (l : List Bs) : Bs := d ++ encS l
def encCR (d : Bs) (l : List Bs) : Bs × Int := if mayC d l then (encC d l, 0) else ([], 3)
/-- The certificate of bytes. -/
def decC (s : Bs) : (Bs × List Bs) × Int :=
  let b := mBytes s 0 32
  let L := mList b.2.1 b.2.2 7 6
  if mEnd L.2.1 L.2.2 = 0 ∧ mayC b.1 L.1 = true then ((b.1, L.1), 0) else (([], []), 3)
theorem okS_len : ∀ (l : List Bs) (z : Bs), okS z l = true → ∀ i, i < l.length → (l.getD i []).length ≤ 6
  | n :: r, z, h, i, hi => by
    simp only [okS, Bool.and_eq_true, Bool.not_eq_true', Bool.or_eq_false_iff, decide_eq_false_iff_not] at h
    obtain ⟨⟨h1, h2⟩, h5⟩ := h
    match i with
    | 0 => simp; omega
    | j + 1 => exact okS_len r n h5 j (by simpa using hi)
theorem mayC_parts {d : Bs} {l : List Bs} (h : mayC d l = true) : d.length = 32 ∧ l.length ≤ 7 ∧ okS [] l = true ∧ ∀ i, i < l.length → (l.getD i []).length ≤ 6 := by
  simp only [mayC, Bool.and_eq_true, decide_eq_true_eq] at h
  exact ⟨h.1.1, h.1.2, h.2, okS_len l [] h.2⟩
theorem encS_len (l : List Bs) (h7 : l.length ≤ 7) (h : ∀ i, i < l.length → (l.getD i []).length ≤ 6) : (encS l).length ≤ 200 := by
  have h1 := listB_len l 6 h l.length (Nat.le_refl _)
  rw [List.take_length] at h1
  have hn9 := num_len l.length
  simp only [encS, List.length_append]
  omega
end Pl

theorem results_ct {P : Program} {fn : Func} {a b : Nat} {t : TypeId} (h : fn.results = #[.cell a t, .tmp b]) (tmps : Array Value) (w : World) (p : Addr) (v : Value) (hp : tmps.getD a undef = .pointer (some p)) (hl : (loadVar t p).run P w = .ok v w) :
    (results fn tmps).run P w = .ok (.tuple #[v, tmps.getD b undef]) w := by
  unfold results
  rw [h]
  rw [Array.getD_eq_getD_getElem?] at hp
  simp [hp, asAddr, hl, Sem.run_bind]
namespace Pl
theorem decC_short (s : Bs) (h : s.length < 32) : decC s = (([], []), 3) := by
  have hb : mBytes s 0 32 = ([], s, 20) := by unfold mBytes; rw [if_neg (by simp), if_neg (by omega), if_pos (by omega)]
  have he : ¬ mEnd s 20 = 0 := by unfold mEnd; rw [if_neg (by simp)]; simp
  unfold decC
  rw [hb]
  simp only [mList_c s 20 7 6 (by simp)]
  rw [if_neg (fun h => he h.1)]
theorem decC_long (s : Bs) (h : ¬ s.length < 32) : decC s = if mEnd (mList (s.drop 32) 0 7 6).2.1 (mList (s.drop 32) 0 7 6).2.2 = 0 ∧ mayC (s.take 32) (mList (s.drop 32) 0 7 6).1 = true then ((s.take 32, (mList (s.drop 32) 0 7 6).1), 0) else (([], []), 3) := by
  have hb : mBytes s 0 32 = (s.take 32, s.drop 32, 0) := by unfold mBytes; rw [if_neg (by simp), if_neg (by omega), if_neg (by omega)]; rfl
  unfold decC
  rw [hb]
end Pl


end Go.Proofs.YtdddcncjmnekcaaGreatDoor

/- Whether a certificate is good: the program's. -/
set_option linter.unusedSimpArgs false
set_option linter.unusedVariables false
namespace Go.Proofs.YtdddcncjmnekcaaGreatDoor
open Go.RowKit Pl

namespace Pl
def tagC (tag : Int) : Bool := decide (tag = 5) || decide (tag = 6)
def markP (tag : Int) (s : Bs) : Bs × Int := if tagC tag = false then ([], 1) else if s.length ≠ 32 then ([], 3) else (tagP tag.toNat s, 0)
def firstC (tag : Int) (l : List (Bs × Int)) (fine : Bool) : Int := if tagC tag = false then 1 else if chkM l = false then 50 else if fine then 0 else 3
def chkA (l : List (Bs × Int)) (ns : List Bs) : Bool := ns.all fun n => decide (ofM l [n] ≠ 0)
def chkB (L : List Sg) (m : Bs) (ns : List Bs) : Bool := ns.all fun n => isIn L n m
def goodIn (l : List (Bs × Int)) (m : Bs) (ns : List Bs) (L : List Sg) : Int :=
  if chkA l ns = false then 5 else if chkB L m ns = false then 70 else if ofM l ns < quoM l then 71 else 0
def goodC (tag : Int) (l : List (Bs × Int)) (d : Bs) (ns : List Bs) (L : List Sg) : Int :=
  if firstC tag l (mayC d ns) ≠ 0 then firstC tag l (mayC d ns) else goodIn l (tagP tag.toNat d) ns L
theorem goodC_in {tag : Int} {l : List (Bs × Int)} {d : Bs} {ns : List Bs} {L : List Sg} (h : firstC tag l (mayC d ns) = 0) : goodC tag l d ns L = goodIn l (tagP tag.toNat d) ns L := by
  unfold goodC
  rw [if_neg (by simpa using h)]
theorem goodC_out {tag : Int} {l : List (Bs × Int)} {d : Bs} {ns : List Bs} {L : List Sg} (h : firstC tag l (mayC d ns) ≠ 0) : goodC tag l d ns L = firstC tag l (mayC d ns) := by
  unfold goodC
  rw [if_pos h]
end Pl

theorem chkA_drop (l : List (Bs × Int)) (ns : List Bs) (i : Nat) (hi : i < ns.length) : chkA l (ns.drop i) = (decide (ofM l [ns.getD i []] ≠ 0) && chkA l (ns.drop (i + 1))) := by
  rw [dropS ns i hi]
  rfl
theorem chkB_drop (L : List Sg) (m : Bs) (ns : List Bs) (i : Nat) (hi : i < ns.length) : chkB L m (ns.drop i) = (isIn L (ns.getD i []) m && chkB L m (ns.drop (i + 1))) := by
  rw [dropS ns i hi]
  rfl

end Go.Proofs.YtdddcncjmnekcaaGreatDoor

/- The certificate of all who signed: the program's. -/
set_option linter.unusedSimpArgs false
set_option linter.unusedVariables false
namespace Go.Proofs.YtdddcncjmnekcaaGreatDoor
open Go.RowKit Pl

namespace Pl
def selN (L : List Sg) (m : Bs) (l : List (Bs × Int)) : List Bs := (l.filter fun x => isIn L x.1 m).map (·.1)
theorem selN_take (L : List Sg) (m : Bs) (l : List (Bs × Int)) (i : Nat) (hi : i < l.length) : selN L m (l.take (i + 1)) = selN L m (l.take i) ++ (if isIn L (l.getD i ([], 0)).1 m then [(l.getD i ([], 0)).1] else []) := by
  rw [take_getD l i hi]
  unfold selN
  rw [List.filter_append, List.map_append]
  congr 1
  cases h : isIn L (l.getD i ([], 0)).1 m
  · rw [List.filter_cons_of_neg (by rw [h]; simp)]; simp
  · rw [List.filter_cons_of_pos (by rw [h])]; simp
theorem selN_len (L : List Sg) (m : Bs) (l : List (Bs × Int)) : (selN L m l).length ≤ l.length := by
  unfold selN
  rw [List.length_map]
  exact List.length_filter_le _ _
theorem selN_mem (L : List Sg) (m : Bs) (l : List (Bs × Int)) : ∀ n ∈ selN L m l, ∃ x ∈ l, x.1 = n := by
  intro n hn
  unfold selN at hn
  obtain ⟨x, hx, rfl⟩ := List.mem_map.1 hn
  exact ⟨x, (List.mem_filter.1 hx).1, rfl⟩
theorem selN_short (L : List Sg) (m : Bs) (l : List (Bs × Int)) (h : ∀ i, i < l.length → (l.getD i ([], 0)).1.length ≤ 6) : ∀ j, j < (selN L m l).length → ((selN L m l).getD j []).length ≤ 6 := by
  intro j hj
  have hmem : (selN L m l).getD j [] ∈ selN L m l := by
    rw [List.getD_eq_getElem?_getD, List.getElem?_eq_getElem hj]
    exact List.getElem_mem hj
  obtain ⟨x, hx, he⟩ := selN_mem L m l _ hmem
  rw [← he]
  obtain ⟨i, hi, rfl⟩ := List.getElem_of_mem hx
  have := h i hi
  rw [List.getD_eq_getElem?_getD, List.getElem?_eq_getElem hi] at this
  exact this
def gathIn (l : List (Bs × Int)) (s m : Bs) (L : List Sg) : (Bs × List Bs) × Int :=
  if ofM l (selN L m l) < quoM l then (([], []), 71) else ((s, selN L m l), 0)
def gathC (tag : Int) (l : List (Bs × Int)) (s : Bs) (L : List Sg) : (Bs × List Bs) × Int :=
  if firstC tag l (decide (s.length = 32)) ≠ 0 then (([], []), firstC tag l (decide (s.length = 32))) else gathIn l s (tagP tag.toNat s) L
theorem gathC_in {tag : Int} {l : List (Bs × Int)} {s : Bs} {L : List Sg} (h : firstC tag l (decide (s.length = 32)) = 0) : gathC tag l s L = gathIn l s (tagP tag.toNat s) L := by
  unfold gathC
  rw [if_neg (by simpa using h)]
theorem gathC_out {tag : Int} {l : List (Bs × Int)} {s : Bs} {L : List Sg} (h : firstC tag l (decide (s.length = 32)) ≠ 0) : gathC tag l s L = (([], []), firstC tag l (decide (s.length = 32))) := by
  unfold gathC
  rw [if_pos h]
theorem first_zero {tag : Int} {l : List (Bs × Int)} {fine : Bool} (he : firstC tag l fine = 0) : fine = true ∧ tagC tag = true ∧ chkM l = true := by
  unfold firstC at he
  cases hq : tagC tag
  · simp [hq] at he
  · cases hq2 : chkM l
    · simp [hq, hq2] at he
    · cases fine
      · simp [hq, hq2] at he
      · exact ⟨rfl, rfl, rfl⟩
end Pl

end Go.Proofs.YtdddcncjmnekcaaGreatDoor

/- Sums that are reckoned out: a table of words and of rounds is checked, entry by entry. -/
set_option linter.unusedSimpArgs false
set_option linter.unusedVariables false
namespace Go.Proofs.YtdddcncjmnekcaaGreatDoor
open Go.RowKit

def okW (b : Nat → Int) (W : List Int) : Bool := (List.range 64).all fun i => decide (W.getD i 0 = if i < 16 then word4 b i else (W.getD (i - 16) 0 + sg0 (W.getD (i - 15) 0) + W.getD (i - 7) 0 + sg1 (W.getD (i - 2) 0)) % 4294967296)
theorem okW_sch (b : Nat → Int) (W : List Int) (h : okW b W = true) (i : Nat) (hi : i < 64) : sch b i = W.getD i 0 := by
  induction i using Nat.strongRecOn with
  | _ i ih =>
    have h2 := List.all_eq_true.1 h i (by simpa using hi)
    rw [decide_eq_true_iff] at h2
    rw [h2]
    by_cases h16 : i < 16
    · rw [if_pos h16, sch_lo b i h16]
    · rw [if_neg h16, sch_hi b i h16, ih (i - 16) (by omega) (by omega), ih (i - 15) (by omega) (by omega), ih (i - 7) (by omega) (by omega), ih (i - 2) (by omega) (by omega)]
def stL (S : List (List Int)) (n : Nat) : Nat → Int := fun j => (S.getD n []).getD j 0
def okR (g : Nat → Int) (W : List Int) (S : List (List Int)) : Bool :=
  (List.range 8).all (fun j => decide (stL S 0 j = g j)) && (List.range 64).all fun n => (List.range 8).all fun j => decide (stL S (n + 1) j = rnd (kc n) (W.getD n 0) (stL S n) j)
theorem rnd_of (k w : Int) (u v : Nat → Int) (h : ∀ j, j < 8 → u j = v j) : ∀ j, j < 8 → rnd k w u j = rnd k w v j := by
  intro j hj
  unfold rnd
  have h0 := h 0 (by omega)
  have h1 := h 1 (by omega)
  have h2 := h 2 (by omega)
  have h3 := h 3 (by omega)
  have h4 := h 4 (by omega)
  have h5 := h 5 (by omega)
  have h6 := h 6 (by omega)
  have h7 := h 7 (by omega)
  split <;> first | rfl | assumption | (simp only [h0, h1, h2, h3, h4, h5, h6, h7])
theorem okR_rds (g b : Nat → Int) (W : List Int) (S : List (List Int)) (hw : okW b W = true) (h : okR g W S = true) : ∀ n, n ≤ 64 → ∀ j, j < 8 → rds g b n j = stL S n j := by
  unfold okR at h
  rw [Bool.and_eq_true] at h
  intro n
  induction n with
  | zero =>
    intro _ j hj
    have := List.all_eq_true.1 h.1 j (by simpa using hj)
    rw [decide_eq_true_iff] at this
    exact this.symm
  | succ n ih =>
    intro hn j hj
    have h2 := List.all_eq_true.1 h.2 n (by simp; omega)
    have h3 := List.all_eq_true.1 h2 j (by simpa using hj)
    rw [decide_eq_true_iff] at h3
    rw [h3, rds, okW_sch b W hw n (by omega)]
    exact rnd_of _ _ _ _ (ih (by omega)) j hj
/-- The first word of the sum of a text of one block. -/
theorem sum_byte (s : List UInt8) (W : List Int) (S : List (List Int)) (hp : (padP s).length / 64 = 1) (hw : okW (blkB (padP s) 0) W = true) (h : okR firstW W S = true) :
    (sumP s).getD 0 0 = UInt8.ofNat (((stL S 64 0 + firstW 0) % 4294967296 / 16777216 % 256).toNat) := by
  have h1 := okR_rds firstW (blkB (padP s) 0) W S hw h 64 (by omega) 0 (by omega)
  have h2 : (sumP s).getD 0 0 = UInt8.ofNat (byteAt (blkN firstW (padP s) ((padP s).length / 64)) 0).toNat := by simp [sumP, toldP]
  rw [h2, hp]
  show UInt8.ofNat (byteAt (blk firstW (blkB (padP s) 0)) 0).toNat = _
  unfold byteAt blk
  simp only [Nat.zero_div, Nat.zero_mod, if_true]
  rw [h1]
end Go.Proofs.YtdddcncjmnekcaaGreatDoor

/- The chapter's example's two marks differ. -/
set_option linter.unusedSimpArgs false
set_option linter.unusedVariables false
namespace Go.Proofs.YtdddcncjmnekcaaGreatDoor
open Go.RowKit

def dig7 : List UInt8 := [97, 32, 100, 105, 103, 101, 115, 116, 44, 32, 116, 104, 105, 114, 116, 121, 45, 116, 119, 111, 32, 98, 121, 116, 101, 115, 32, 111, 102, 32, 105, 116]
def wT5 : List Int := [90251364, 1768383859, 1949048948, 1751741044, 2033022071, 1864393337, 1952805664, 1868963945, 1954545664, 0, 0, 0, 0, 0, 0, 264, 939792545, 1484596920, 3166159144, 1557189913, 2037379063, 4060450267, 3584610333, 760044619, 1060462861, 3261030784, 2038024765, 3593526963, 3461143484, 1247997446, 875153991, 2908724223, 148584841, 3343392353, 2605064144, 1376630425, 1524216682, 2832439061, 934885081, 893809816, 2246522168, 1506435955, 2456304703, 92698804, 1328946891, 1877389474, 1110305272, 2668488782, 2306416967, 3630441169, 2864315804, 3917264727, 1738969720, 2980770081, 504775893, 2454791151, 3197702203, 479806366, 481346807, 263418596, 1624167031, 3890894545, 2092465867, 2510185050]
def sT5 : List (List Int) := [[1779033703, 3144134277, 1013904242, 2773480762, 1359893119, 2600822924, 528734635, 1541459225],
  [23701681, 1779033703, 3144134277, 1013904242, 2653487878, 1359893119, 2600822924, 528734635],
  [1211376809, 23701681, 1779033703, 3144134277, 3049833490, 2653487878, 1359893119, 2600822924],
  [3051601116, 1211376809, 23701681, 1779033703, 2169231637, 3049833490, 2653487878, 1359893119],
  [1522519871, 3051601116, 1211376809, 23701681, 2113525232, 2169231637, 3049833490, 2653487878],
  [4264244053, 1522519871, 3051601116, 1211376809, 1450398702, 2113525232, 2169231637, 3049833490],
  [2585997388, 4264244053, 1522519871, 3051601116, 2579704612, 1450398702, 2113525232, 2169231637],
  [371634193, 2585997388, 4264244053, 1522519871, 3383888430, 2579704612, 1450398702, 2113525232],
  [1579099101, 371634193, 2585997388, 4264244053, 3136973150, 3383888430, 2579704612, 1450398702],
  [2898239548, 1579099101, 371634193, 2585997388, 1457608126, 3136973150, 3383888430, 2579704612],
  [2029942519, 2898239548, 1579099101, 371634193, 546801638, 1457608126, 3136973150, 3383888430],
  [3312543827, 2029942519, 2898239548, 1579099101, 3464064442, 546801638, 1457608126, 3136973150],
  [3838940100, 3312543827, 2029942519, 2898239548, 3750631584, 3464064442, 546801638, 1457608126],
  [3463487915, 3838940100, 3312543827, 2029942519, 3034742050, 3750631584, 3464064442, 546801638],
  [3766709782, 3463487915, 3838940100, 3312543827, 1489718900, 3034742050, 3750631584, 3464064442],
  [644613919, 3766709782, 3463487915, 3838940100, 1104955344, 1489718900, 3034742050, 3750631584],
  [320840098, 644613919, 3766709782, 3463487915, 3490889737, 1104955344, 1489718900, 3034742050],
  [1658239895, 320840098, 644613919, 3766709782, 400964947, 3490889737, 1104955344, 1489718900],
  [2273597022, 1658239895, 320840098, 644613919, 3871881986, 400964947, 3490889737, 1104955344],
  [988159906, 2273597022, 1658239895, 320840098, 1534009216, 3871881986, 400964947, 3490889737],
  [3980295098, 988159906, 2273597022, 1658239895, 4055967123, 1534009216, 3871881986, 400964947],
  [2194729702, 3980295098, 988159906, 2273597022, 2525702682, 4055967123, 1534009216, 3871881986],
  [3370624374, 2194729702, 3980295098, 988159906, 4048144893, 2525702682, 4055967123, 1534009216],
  [1526929330, 3370624374, 2194729702, 3980295098, 3319256603, 4048144893, 2525702682, 4055967123],
  [2728875935, 1526929330, 3370624374, 2194729702, 2652198603, 3319256603, 4048144893, 2525702682],
  [3836707843, 2728875935, 1526929330, 3370624374, 3553532124, 2652198603, 3319256603, 4048144893],
  [3411368463, 3836707843, 2728875935, 1526929330, 1248926724, 3553532124, 2652198603, 3319256603],
  [3375510648, 3411368463, 3836707843, 2728875935, 3385508631, 1248926724, 3553532124, 2652198603],
  [2301993847, 3375510648, 3411368463, 3836707843, 155893600, 3385508631, 1248926724, 3553532124],
  [1990519056, 2301993847, 3375510648, 3411368463, 1654799168, 155893600, 3385508631, 1248926724],
  [3156575084, 1990519056, 2301993847, 3375510648, 4155993426, 1654799168, 155893600, 3385508631],
  [140969133, 3156575084, 1990519056, 2301993847, 1930584746, 4155993426, 1654799168, 155893600],
  [3955373157, 140969133, 3156575084, 1990519056, 1030692990, 1930584746, 4155993426, 1654799168],
  [1088316423, 3955373157, 140969133, 3156575084, 1041105923, 1030692990, 1930584746, 4155993426],
  [3359289082, 1088316423, 3955373157, 140969133, 2986117968, 1041105923, 1030692990, 1930584746],
  [1717935162, 3359289082, 1088316423, 3955373157, 1989114677, 2986117968, 1041105923, 1030692990],
  [1053021161, 1717935162, 3359289082, 1088316423, 4224491097, 1989114677, 2986117968, 1041105923],
  [157807106, 1053021161, 1717935162, 3359289082, 4230746352, 4224491097, 1989114677, 2986117968],
  [1402636280, 157807106, 1053021161, 1717935162, 1609278766, 4230746352, 4224491097, 1989114677],
  [1922960072, 1402636280, 157807106, 1053021161, 2080634550, 1609278766, 4230746352, 4224491097],
  [887583430, 1922960072, 1402636280, 157807106, 3980233823, 2080634550, 1609278766, 4230746352],
  [126335126, 887583430, 1922960072, 1402636280, 395199607, 3980233823, 2080634550, 1609278766],
  [4139245025, 126335126, 887583430, 1922960072, 3088556301, 395199607, 3980233823, 2080634550],
  [3337315146, 4139245025, 126335126, 887583430, 3037442096, 3088556301, 395199607, 3980233823],
  [2061275453, 3337315146, 4139245025, 126335126, 3803858351, 3037442096, 3088556301, 395199607],
  [3822267859, 2061275453, 3337315146, 4139245025, 1329794496, 3803858351, 3037442096, 3088556301],
  [3339439537, 3822267859, 2061275453, 3337315146, 782293, 1329794496, 3803858351, 3037442096],
  [2426944440, 3339439537, 3822267859, 2061275453, 1077806371, 782293, 1329794496, 3803858351],
  [4101235264, 2426944440, 3339439537, 3822267859, 1388633055, 1077806371, 782293, 1329794496],
  [1274740235, 4101235264, 2426944440, 3339439537, 2064639824, 1388633055, 1077806371, 782293],
  [256180223, 1274740235, 4101235264, 2426944440, 1006175790, 2064639824, 1388633055, 1077806371],
  [2386796081, 256180223, 1274740235, 4101235264, 2678202809, 1006175790, 2064639824, 1388633055],
  [2560952388, 2386796081, 256180223, 1274740235, 3782318240, 2678202809, 1006175790, 2064639824],
  [1698855194, 2560952388, 2386796081, 256180223, 852181845, 3782318240, 2678202809, 1006175790],
  [710252301, 1698855194, 2560952388, 2386796081, 1424990524, 852181845, 3782318240, 2678202809],
  [958342301, 710252301, 1698855194, 2560952388, 4202538492, 1424990524, 852181845, 3782318240],
  [3742957940, 958342301, 710252301, 1698855194, 942301025, 4202538492, 1424990524, 852181845],
  [4098623914, 3742957940, 958342301, 710252301, 3322679742, 942301025, 4202538492, 1424990524],
  [2867804647, 4098623914, 3742957940, 958342301, 398836573, 3322679742, 942301025, 4202538492],
  [1592742674, 2867804647, 4098623914, 3742957940, 6317598, 398836573, 3322679742, 942301025],
  [3627560708, 1592742674, 2867804647, 4098623914, 100445201, 6317598, 398836573, 3322679742],
  [2346755480, 3627560708, 1592742674, 2867804647, 4138244828, 100445201, 6317598, 398836573],
  [2357512074, 2346755480, 3627560708, 1592742674, 3487680021, 4138244828, 100445201, 6317598],
  [2101398585, 2357512074, 2346755480, 3627560708, 3341023181, 3487680021, 4138244828, 100445201],
  [2223105353, 2101398585, 2357512074, 2346755480, 2437812664, 3341023181, 3487680021, 4138244828]]
def wT6 : List Int := [107028580, 1768383859, 1949048948, 1751741044, 2033022071, 1864393337, 1952805664, 1868963945, 1954545664, 0, 0, 0, 0, 0, 0, 264, 956569761, 1484596920, 3166175688, 1557189913, 1640231813, 4060450267, 1396192225, 776821835, 3969217711, 3261031296, 1909064606, 3208962625, 866521655, 1082092883, 165737105, 2334397190, 2492310166, 3701794652, 3986656261, 2047108662, 2765018008, 2145588892, 1450882771, 3418212098, 2551192970, 3180333923, 2770796350, 1436861916, 3384196042, 2965801804, 2030072421, 255146653, 628679617, 2975107019, 722424983, 2820836488, 2299383069, 314198240, 836737477, 1609553385, 1531755685, 3474922313, 2592286207, 1879553286, 8524752, 3895553511, 2581723150, 3289162088]
def sT6 : List (List Int) := [[1779033703, 3144134277, 1013904242, 2773480762, 1359893119, 2600822924, 528734635, 1541459225],
  [40478897, 1779033703, 3144134277, 1013904242, 2670265094, 1359893119, 2600822924, 528734635],
  [3346537645, 40478897, 1779033703, 3144134277, 902603794, 2670265094, 1359893119, 2600822924],
  [4260139511, 3346537645, 40478897, 1779033703, 36177889, 902603794, 2670265094, 1359893119],
  [911042527, 4260139511, 3346537645, 40478897, 376152227, 36177889, 902603794, 2670265094],
  [3785760330, 911042527, 4260139511, 3346537645, 632166839, 376152227, 36177889, 902603794],
  [180006553, 3785760330, 911042527, 4260139511, 167711299, 632166839, 376152227, 36177889],
  [3688257963, 180006553, 3785760330, 911042527, 3661111918, 167711299, 632166839, 376152227],
  [2010305238, 3688257963, 180006553, 3785760330, 2140943475, 3661111918, 167711299, 632166839],
  [4129017904, 2010305238, 3688257963, 180006553, 1004716003, 2140943475, 3661111918, 167711299],
  [1694892196, 4129017904, 2010305238, 3688257963, 2762758017, 1004716003, 2140943475, 3661111918],
  [2518339174, 1694892196, 4129017904, 2010305238, 4135460304, 2762758017, 1004716003, 2140943475],
  [4240810723, 2518339174, 1694892196, 4129017904, 3237092478, 4135460304, 2762758017, 1004716003],
  [2476796614, 4240810723, 2518339174, 1694892196, 2534487722, 3237092478, 4135460304, 2762758017],
  [93832078, 2476796614, 4240810723, 2518339174, 1654987604, 2534487722, 3237092478, 4135460304],
  [3587861681, 93832078, 2476796614, 4240810723, 341013510, 1654987604, 2534487722, 3237092478],
  [3314992008, 3587861681, 93832078, 2476796614, 3011414333, 341013510, 1654987604, 2534487722],
  [2944883014, 3314992008, 3587861681, 93832078, 123978050, 3011414333, 341013510, 1654987604],
  [2455305065, 2944883014, 3314992008, 3587861681, 1437123746, 123978050, 3011414333, 341013510],
  [3046115695, 2455305065, 2944883014, 3314992008, 664572036, 1437123746, 123978050, 3011414333],
  [2791763747, 3046115695, 2455305065, 2944883014, 3459336495, 664572036, 1437123746, 123978050],
  [4070042741, 2791763747, 3046115695, 2455305065, 3767948266, 3459336495, 664572036, 1437123746],
  [4001758489, 4070042741, 2791763747, 3046115695, 2307674803, 3767948266, 3459336495, 664572036],
  [1742437623, 4001758489, 4070042741, 2791763747, 2991139938, 2307674803, 3767948266, 3459336495],
  [2423658425, 1742437623, 4001758489, 4070042741, 4236692974, 2991139938, 2307674803, 3767948266],
  [1143280326, 2423658425, 1742437623, 4001758489, 1314234723, 4236692974, 2991139938, 2307674803],
  [1402063640, 1143280326, 2423658425, 1742437623, 1781544113, 1314234723, 4236692974, 2991139938],
  [1502396982, 1402063640, 1143280326, 2423658425, 1713937551, 1781544113, 1314234723, 4236692974],
  [2754833996, 1502396982, 1402063640, 1143280326, 776642146, 1713937551, 1781544113, 1314234723],
  [4180336913, 2754833996, 1502396982, 1402063640, 1424843043, 776642146, 1713937551, 1781544113],
  [1553310342, 4180336913, 2754833996, 1502396982, 3652932755, 1424843043, 776642146, 1713937551],
  [3225864234, 1553310342, 4180336913, 2754833996, 1208095454, 3652932755, 1424843043, 776642146],
  [282439406, 3225864234, 1553310342, 4180336913, 4070253051, 1208095454, 3652932755, 1424843043],
  [3998033205, 282439406, 3225864234, 1553310342, 4037281347, 4070253051, 1208095454, 3652932755],
  [2578164786, 3998033205, 282439406, 3225864234, 3478304237, 4037281347, 4070253051, 1208095454],
  [424804357, 2578164786, 3998033205, 282439406, 3615240130, 3478304237, 4037281347, 4070253051],
  [2625649791, 424804357, 2578164786, 3998033205, 93218884, 3615240130, 3478304237, 4037281347],
  [1194063657, 2625649791, 424804357, 2578164786, 2546588347, 93218884, 3615240130, 3478304237],
  [3447414228, 1194063657, 2625649791, 424804357, 46691408, 2546588347, 93218884, 3615240130],
  [1668597196, 3447414228, 1194063657, 2625649791, 2131450042, 46691408, 2546588347, 93218884],
  [2395713590, 1668597196, 3447414228, 1194063657, 4263967633, 2131450042, 46691408, 2546588347],
  [1415637955, 2395713590, 1668597196, 3447414228, 3209350317, 4263967633, 2131450042, 46691408],
  [1001507249, 1415637955, 2395713590, 1668597196, 3122573593, 3209350317, 4263967633, 2131450042],
  [307607679, 1001507249, 1415637955, 2395713590, 2460297612, 3122573593, 3209350317, 4263967633],
  [2412833137, 307607679, 1001507249, 1415637955, 3130961593, 2460297612, 3122573593, 3209350317],
  [4082273311, 2412833137, 307607679, 1001507249, 3221490573, 3130961593, 2460297612, 3122573593],
  [2186097214, 4082273311, 2412833137, 307607679, 1418923282, 3221490573, 3130961593, 2460297612],
  [358556108, 2186097214, 4082273311, 2412833137, 2662632733, 1418923282, 3221490573, 3130961593],
  [3379402429, 358556108, 2186097214, 4082273311, 1311706417, 2662632733, 1418923282, 3221490573],
  [2242554763, 3379402429, 358556108, 2186097214, 2243963656, 1311706417, 2662632733, 1418923282],
  [2188253203, 2242554763, 3379402429, 358556108, 1739783459, 2243963656, 1311706417, 2662632733],
  [150774848, 2188253203, 2242554763, 3379402429, 75845620, 1739783459, 2243963656, 1311706417],
  [1888836099, 150774848, 2188253203, 2242554763, 3865434599, 75845620, 1739783459, 2243963656],
  [962466518, 1888836099, 150774848, 2188253203, 1689634422, 3865434599, 75845620, 1739783459],
  [347233704, 962466518, 1888836099, 150774848, 4254551257, 1689634422, 3865434599, 75845620],
  [2182609358, 347233704, 962466518, 1888836099, 962834658, 4254551257, 1689634422, 3865434599],
  [2462279890, 2182609358, 347233704, 962466518, 3257635907, 962834658, 4254551257, 1689634422],
  [2266966483, 2462279890, 2182609358, 347233704, 1046658171, 3257635907, 962834658, 4254551257],
  [4048814576, 2266966483, 2462279890, 2182609358, 2951887157, 1046658171, 3257635907, 962834658],
  [3344837319, 4048814576, 2266966483, 2462279890, 1380561322, 2951887157, 1046658171, 3257635907],
  [1289297099, 3344837319, 4048814576, 2266966483, 956017773, 1380561322, 2951887157, 1046658171],
  [3254476385, 1289297099, 3344837319, 4048814576, 849310376, 956017773, 1380561322, 2951887157],
  [2611588470, 3254476385, 1289297099, 3344837319, 1494823262, 849310376, 956017773, 1380561322],
  [4030561160, 2611588470, 3254476385, 1289297099, 2176261486, 1494823262, 849310376, 956017773],
  [2857112724, 4030561160, 2611588470, 3254476385, 264549686, 2176261486, 1494823262, 849310376]]

set_option maxRecDepth 100000 in
theorem w5_ok : okW (blkB (padP (5 :: dig7)) 0) wT5 = true := by decide +kernel
set_option maxRecDepth 100000 in
theorem w6_ok : okW (blkB (padP (6 :: dig7)) 0) wT6 = true := by decide +kernel
set_option maxRecDepth 100000 in
theorem r5_ok : okR firstW wT5 sT5 = true := by decide +kernel
set_option maxRecDepth 100000 in
theorem r6_ok : okR firstW wT6 sT6 = true := by decide +kernel
theorem one5 : (padP (5 :: dig7)).length / 64 = 1 := by decide +kernel
theorem one6 : (padP (6 :: dig7)).length / 64 = 1 := by decide +kernel
theorem marks_differ : tagP 5 dig7 ≠ tagP 6 dig7 := by
  intro h
  have h5 := sum_byte (5 :: dig7) wT5 sT5 one5 w5_ok r5_ok
  have h6 := sum_byte (6 :: dig7) wT6 sT6 one6 w6_ok r6_ok
  have h1 : (sumP (5 :: dig7)).getD 0 0 = (sumP (6 :: dig7)).getD 0 0 := congrArg (fun l => l.getD 0 0) h
  rw [h5, h6] at h1
  revert h1
  decide +kernel
end Go.Proofs.YtdddcncjmnekcaaGreatDoor

/- The chapter's examples of layer 5. -/
set_option linter.unusedSimpArgs false
set_option linter.unusedVariables false
namespace Go.Proofs.YtdddcncjmnekcaaGreatDoor
open Go.RowKit Pl

def four : List (Bs × Int) := [([97], 1), ([98], 1), ([99], 1), ([100], 1)]
theorem four_ok : chkM four = true := by decide
theorem four_tot : totM four = 4 := by decide
theorem four_quo : quoM four = 3 := by decide
theorem four_most : mostM four = 1 := by decide
theorem four_of : ofM four [[98], [122], [98]] = 1 := by decide


end Go.Proofs.YtdddcncjmnekcaaGreatDoor

/- The chapter's example of layer 7. -/
set_option linter.unusedSimpArgs false
set_option linter.unusedVariables false
namespace Go.Proofs.YtdddcncjmnekcaaGreatDoor
open Go.RowKit Pl

def lA (m : Bs) : List Sg := [([97], m, true)]
def lB (m : Bs) : List Sg := [([97], m, true), ([98], m, true)]
def lD (m : Bs) : List Sg := [([97], m, true), ([98], m, true), ([100], m, true)]
theorem may_ab : mayC dig7 [[97], [98]] = true := by decide
theorem may_abd : mayC dig7 [[97], [98], [100]] = true := by decide
theorem first5 (b : Bool) : firstC 5 four b = if b then 0 else 3 := by cases b <;> decide
theorem first6 (b : Bool) : firstC 6 four b = if b then 0 else 3 := by cases b <;> decide
theorem chkA_ab : chkA four [[97], [98]] = true := by decide
theorem chkA_abd : chkA four [[97], [98], [100]] = true := by decide
theorem few7 (m : Bs) (hm : tagP 5 dig7 = m) : goodC 5 four dig7 [[97], [98]] (lB m) = 71 := by
  rw [goodC_in (by rw [may_ab, first5]; rfl)]
  unfold goodIn
  rw [chkA_ab]
  have h : chkB (lB m) (tagP (5 : Int).toNat dig7) [[97], [98]] = true := by
    rw [show (5 : Int).toNat = 5 from rfl, hm]
    simp [chkB, isIn, lB, keyOfS]
  rw [h]
  decide
theorem all7 (m : Bs) (hm : tagP 5 dig7 = m) : gathC 5 four dig7 (lD m) = ((dig7, [[97], [98], [100]]), 0) := by
  rw [gathC_in (by rw [show decide (dig7.length = 32) = true from by decide, first5]; rfl)]
  unfold gathIn
  have h : selN (lD m) (tagP (5 : Int).toNat dig7) four = [[97], [98], [100]] := by
    rw [show (5 : Int).toNat = 5 from rfl, hm]
    simp [selN, four, isIn, lD, keyOfS]
  rw [h]
  have h2 : ¬ ofM four [[97], [98], [100]] < quoM four := by decide
  rw [if_neg h2]
theorem good7 (m : Bs) (hm : tagP 5 dig7 = m) : goodC 5 four dig7 [[97], [98], [100]] (lD m) = 0 := by
  rw [goodC_in (by rw [may_abd, first5]; rfl)]
  unfold goodIn
  rw [chkA_abd]
  have h : chkB (lD m) (tagP (5 : Int).toNat dig7) [[97], [98], [100]] = true := by
    rw [show (5 : Int).toNat = 5 from rfl, hm]
    simp [chkB, isIn, lD, keyOfS]
  rw [h]
  decide
theorem bad7 (m : Bs) (hm : tagP 5 dig7 = m) : goodC 6 four dig7 [[97], [98], [100]] (lD m) = 70 := by
  rw [goodC_in (by rw [may_abd, first6]; rfl)]
  unfold goodIn
  rw [chkA_abd]
  have hne : ¬ tagP 6 dig7 = m := by rw [← hm]; exact fun h => marks_differ h.symm
  have h : chkB (lD m) (tagP (6 : Int).toNat dig7) [[97], [98], [100]] = false := by
    rw [show (6 : Int).toNat = 6 from rfl]
    generalize tagP 6 dig7 = n at *
    simp [chkB, isIn, lD, keyOfS, hne]
  rw [h]
  decide

theorem sametexts_selfB (u v : Value) (l : List Bs) (w : World) (hu : SS w u l) (hv : SS w v l) :
    Calls Tryz.prog 19 #[u, v] w fun e w' => e = .returned (.bool true) ∧ Below w.heap.size w w' :=
  (sametexts_self u v l w hu hv).mono fun _ _ ⟨h, n, e⟩ => ⟨h, e ▸ below_drewN (Below.refl _ _) n⟩
theorem MS.below {W w : World} {B g o n c : Nat} {l : List (Bs × Int)} (h : MS W (.slice (some ⟨g, o, none⟩) n c) l) (hb : Below B W w) (hg : g < B) : MS w (.slice (some ⟨g, o, none⟩) n c) l := by
  obtain ⟨a, cap, h1, h2, h3, h4⟩ := h
  refine ⟨a, cap, h1, h2, h3, fun hl => ?_⟩
  obtain ⟨g', off, e, hg', hc⟩ := h4 hl
  injection h1 with h1 _ _
  rw [e] at h1
  injection h1 with h1
  injection h1 with h1 h5 _
  subst h1
  exact ⟨g, off, e, Nat.lt_of_lt_of_le hg' hb.size, fun i hi => ⟨(hb.cell (p := ⟨g, off + i * 2, none⟩) hg).trans (hc i hi).1, (hb.cell (p := ⟨g, off + i * 2 + 1, none⟩) hg).trans (hc i hi).2⟩⟩

end Go.Proofs.YtdddcncjmnekcaaGreatDoor

/- The table of signatures: a step that signs, whatever is there. -/
set_option linter.unusedSimpArgs false
set_option linter.unusedVariables false
namespace Go.Proofs.YtdddcncjmnekcaaGreatDoor
open Go.RowKit Go.WideMaps Go.Maps Pl

theorem idxOf_get : ∀ (r : List (Bs × Bs)) (x : Bs × Bs), x ∈ r → idxOf r x < r.length ∧ r.reverse[idxOf r x]? = some x
  | y :: r, x, h => by
    unfold idxOf
    by_cases e : x = y
    · subst e
      rw [if_pos rfl]
      refine ⟨by simp, ?_⟩
      rw [List.reverse_cons, List.getElem?_append_right (by simp)]
      simp
    · rw [if_neg e]
      have hx : x ∈ r := by
        rcases List.mem_cons.1 h with h | h
        · exact absurd h e
        · exact h
      obtain ⟨h1, h2⟩ := idxOf_get r x hx
      refine ⟨by simp; omega, ?_⟩
      rw [List.reverse_cons, List.getElem?_append_left (by simpa using h1)]
      exact h2
/-- Where a signature stands. -/
def placeG (L : List Sg) (who mark : Bs) : Nat := idxOf (L.map keyOfS).reverse (who, mark)
theorem placeG_get (L : List Sg) (who mark : Bs) (h : isIn L who mark = true) : placeG L who mark < L.length ∧ (L.getD (placeG L who mark) sg0').1 = who ∧ (L.getD (placeG L who mark) sg0').2.1 = mark := by
  have hm : (who, mark) ∈ (L.map keyOfS).reverse := by
    unfold isIn at h
    simpa using h
  obtain ⟨h1, h2⟩ := idxOf_get _ _ hm
  rw [List.reverse_reverse] at h2
  unfold placeG
  generalize idxOf (L.map keyOfS).reverse (who, mark) = i at *
  have hi : i < L.length := by simpa using h1
  rw [List.getElem?_map, List.getElem?_eq_getElem hi] at h2
  simp only [Option.map_some, Option.some.injEq, keyOfS, Prod.mk.injEq] at h2
  rw [List.getD_eq_getElem?_getD, List.getElem?_eq_getElem hi]
  exact ⟨hi, h2.1, h2.2⟩
theorem gv_set : ∀ (L : List Sg) (i : Nat) (b : Bool), i < L.length → (gv L).set (i * 3 + 2) (.bool b) = gv (L.set i ((L.getD i sg0').1, (L.getD i sg0').2.1, b))
  | x :: r, 0, b, _ => rfl
  | x :: r, i + 1, b, h => by
    have ih := gv_set r i b (by simpa using h)
    rw [show (i + 1) * 3 + 2 = i * 3 + 2 + 1 + 1 + 1 from by omega]
    simp only [gv, List.set_cons_succ, List.getD_cons_succ]
    rw [ih]
theorem take_set {α : Type} : ∀ (l : List α) (n k : Nat) (x : α), (l.set k x).take n = (l.take n).set k x
  | [], n, k, x => by simp
  | y :: l, 0, k, x => by simp
  | y :: l, n + 1, 0, x => by simp
  | y :: l, n + 1, k + 1, x => by simp [take_set l n k x]
theorem heap_setCell {w : World} {g o : Nat} {cur : Array Value} {e : TypeId} {fr : Nat × Nat} {v : Value} (h : w.heap[g]? = some (.cells cur e fr)) : (w.setCell ⟨g, o, none⟩ v).heap[g]? = some (.cells (cur.setIfInBounds o v) e fr) := by
  unfold World.setCell
  simp [Array.getElem?_modify, h]
/-- What is there behind a step that signs, and the code. -/
def signL (L : List Sg) (who mark : Bs) (honest : Bool) : List Sg × Int :=
  if who = [] ∨ 6 < who.length then (L, 1) else if mark.length ≠ 32 then (L, 3)
  else if isIn L who mark then (L.set (placeG L who mark) (who, mark, (L.getD (placeG L who mark) sg0').2.2 && honest), 0)
  else if 1024 ≤ L.length then (L, 2) else (L ++ [(who, mark, honest)], 0)

theorem keys_set (L : List Sg) (who mark : Bs) (b : Bool) (h : isIn L who mark = true) : (L.set (placeG L who mark) (who, mark, b)).map keyOfS = L.map keyOfS := by
  obtain ⟨h1, h2, h3⟩ := placeG_get L who mark h
  rw [List.map_set]
  have : keyOfS (who, mark, b) = (L.map keyOfS)[placeG L who mark]'(by simpa using h1) := by
    rw [List.getD_eq_getElem?_getD, List.getElem?_eq_getElem h1] at h2 h3
    simp only [Option.getD_some] at h2 h3
    simp only [List.getElem_map, keyOfS]
    rw [h2, h3]
  rw [this, List.set_getElem_self]

end Go.Proofs.YtdddcncjmnekcaaGreatDoor

/- Walk of the statement PowerOverlap, and the sums that it leans on. -/
set_option linter.unusedSimpArgs false
set_option linter.unusedVariables false
namespace Go.Proofs.YtdddcncjmnekcaaGreatDoor
open Go.RowKit Pl

namespace Pl
theorem sum_mono (X Y : List Bs) (h : ∀ x, x ∈ X → x ∈ Y) : ∀ l : List (Bs × Int), (∀ m ∈ l, 0 ≤ m.2) → sumOf X l ≤ sumOf Y l
  | [], _ => by simp [sumOf]
  | m :: l, hp => by
    have ih := sum_mono X Y h l (fun x hx => hp x (by simp [hx]))
    have h0 := hp m (by simp)
    simp only [sumOf, List.contains_iff_mem]
    by_cases h1 : m.1 ∈ X
    · rw [if_pos h1, if_pos (h _ h1)]; omega
    · rw [if_neg h1]
      by_cases h2 : m.1 ∈ Y
      · rw [if_pos h2]; omega
      · rw [if_neg h2]; omega
theorem sum_incl (A B C : List Bs) (h : ∀ x, x ∈ A → x ∈ B → x ∈ C) : ∀ l : List (Bs × Int), (∀ m ∈ l, 0 ≤ m.2) → sumOf A l + sumOf B l ≤ sumM l + sumOf C l
  | [], _ => by simp [sumOf, sumM]
  | m :: l, hp => by
    have ih := sum_incl A B C h l (fun x hx => hp x (by simp [hx]))
    have h0 := hp m (by simp)
    simp only [sumOf, sumM, List.contains_iff_mem]
    by_cases h1 : m.1 ∈ A
    · by_cases h2 : m.1 ∈ B
      · rw [if_pos h1, if_pos h2, if_pos (h _ h1 h2)]; omega
      · rw [if_pos h1, if_neg h2]
        split <;> omega
    · rw [if_neg h1]
      split <;> split <;> omega
theorem sum_mono2 (X Y : List Bs) : ∀ l : List (Bs × Int), (∀ m ∈ l, 0 ≤ m.2) → (∀ m ∈ l, m.1 ∈ X → m.1 ∈ Y) → sumOf X l ≤ sumOf Y l
  | [], _, _ => by simp [sumOf]
  | m :: l, hp, h => by
    have ih := sum_mono2 X Y l (fun x hx => hp x (by simp [hx])) (fun x hx => h x (by simp [hx]))
    have h0 := hp m (by simp)
    simp only [sumOf, List.contains_iff_mem]
    by_cases h1 : m.1 ∈ X
    · rw [if_pos h1, if_pos (h m (by simp) h1)]; omega
    · rw [if_neg h1]
      split <;> omega
theorem pow_pos_of {l : List (Bs × Int)} (hc : chkM l = true) : ∀ m ∈ l, 0 ≤ m.2 := by
  simp only [chkM, Bool.and_eq_true, decide_eq_true_eq] at hc
  intro m hm
  obtain ⟨i, hi, rfl⟩ := List.getElem_of_mem hm
  have := (okM_at l [] hc.2 i hi).2.1
  rw [List.getD_eq_getElem?_getD, List.getElem?_eq_getElem hi] at this
  simp at this
  omega
theorem tot_pos {l : List (Bs × Int)} (hc : chkM l = true) : 1 ≤ totM l := by
  have hc2 := hc
  simp only [chkM, Bool.and_eq_true, decide_eq_true_eq] at hc2
  have h := sumM_take l (fun i hi => (okM_at l [] hc2.2 i hi).2) l.length (by omega)
  rw [List.take_length] at h
  rw [totM, if_pos hc]
  have := hc2.1.1
  omega
theorem quo_of {l : List (Bs × Int)} (hc : chkM l = true) : quoM l = 2 * totM l / 3 + 1 := by
  have := tot_pos hc
  unfold quoM
  rw [if_neg (by omega), Int.tdiv_eq_ediv_of_nonneg (by omega)]
theorem quo_bound (l : List (Bs × Int)) : quoM l ≤ 4700 ∧ 0 ≤ quoM l := by
  have := totM_bound l
  unfold quoM
  split
  · omega
  · rw [Int.tdiv_eq_ediv_of_nonneg (by omega)]; omega
theorem most_of {l : List (Bs × Int)} (hc : chkM l = true) : mostM l = (totM l - 1) / 3 := by
  have := tot_pos hc
  unfold mostM
  rw [if_neg (by omega), Int.tdiv_eq_ediv_of_nonneg (by omega)]
theorem of_bound {l : List (Bs × Int)} (X : List Bs) (hc : chkM l = true) : 0 ≤ ofM l X ∧ ofM l X ≤ 7000 := by
  have hc2 := hc
  simp only [chkM, Bool.and_eq_true, decide_eq_true_eq] at hc2
  have h := sumOf_take X l (fun i hi => (okM_at l [] hc2.2 i hi).2) l.length (by omega)
  rw [List.take_length] at h
  rw [ofM, if_pos hc]
  omega
/-- What the statement says, of numbers alone. -/
theorem over_law {l : List (Bs × Int)} {A B C : List Bs} (hc : chkM l = true) (h : IsBoth A B C) :
    ofM l C ≤ ofM l A ∧ ofM l C ≤ ofM l B ∧ (quoM l ≤ ofM l A → quoM l ≤ ofM l B → mostM l < ofM l C ∧ totM l < 3 * ofM l C) := by
  have hp := pow_pos_of hc
  have h1 := sum_mono C A (fun x hx => ((h.2 x).1 hx).1) l hp
  have h2 := sum_mono C B (fun x hx => ((h.2 x).1 hx).2) l hp
  have h3 := sum_incl A B C (fun x ha hb => (h.2 x).2 ⟨ha, hb⟩) l hp
  have ht := tot_pos hc
  rw [quo_of hc, most_of hc]
  simp only [ofM, totM, hc, if_true] at *
  refine ⟨h1, h2, fun h4 h5 => ⟨?_, ?_⟩⟩ <;> omega
end Pl

end Go.Proofs.YtdddcncjmnekcaaGreatDoor

/- Plain: names of members and of signers rise. -/
set_option linter.unusedSimpArgs false
set_option linter.unusedVariables false
namespace Go.Proofs.YtdddcncjmnekcaaGreatDoor
namespace Pl

theorem less_lt0 : ∀ (x y : Bs), Op.bytesLess x y = decide (x < y)
  | [], [] => by simp [Op.bytesLess]
  | _ :: _, [] => by simp [Op.bytesLess]
  | [], _ :: _ => by simp [Op.bytesLess]
  | a :: x, b :: y => by
    rw [Op.bytesLess, less_lt0 x y]
    simp only [List.cons_lt_cons_iff]
    by_cases h1 : a < b <;> by_cases h2 : a = b <;> by_cases h3 : x < y <;> simp [h1, h2, h3]
theorem leS_false (x z : Bs) : leS x z = false ↔ z < x := by
  unfold leS
  rw [Bool.or_eq_false_iff, less_lt0, decide_eq_false_iff_not]
  constructor
  · rintro ⟨h1, h2⟩
    rcases Classical.em (z < x) with h | h
    · exact h
    · have := List.le_antisymm (List.not_lt.1 h) (List.not_lt.1 h1)
      simp [this] at h2
  · intro h
    refine ⟨fun h2 => absurd (List.lt_trans h h2) (List.lt_irrefl z), ?_⟩
    rw [beq_eq_false_iff_ne]
    intro e
    subst e
    exact absurd h (List.lt_irrefl _)
theorem okS_low : ∀ (l : List Bs) {n z : Bs}, okS n l = true → leS n z = false → okS z l = true
  | [], _, _, _, _ => rfl
  | x :: r, n, z, h, hz => by
    simp only [okS, Bool.and_eq_true, Bool.not_eq_true', Bool.or_eq_false_iff, decide_eq_false_iff_not] at h ⊢
    obtain ⟨⟨h1, h2⟩, h5⟩ := h
    exact ⟨⟨(leS_false x z).2 (List.lt_trans ((leS_false n z).1 hz) ((leS_false x n).1 h1)), h2⟩, h5⟩
theorem okS_sorted : ∀ (l : List Bs) (z : Bs), okS z l = true → (∀ x ∈ l, z < x) ∧ l.Pairwise (fun x y => x < y)
  | [], _, _ => ⟨by simp, List.Pairwise.nil⟩
  | n :: r, z, h => by
    simp only [okS, Bool.and_eq_true, Bool.not_eq_true', Bool.or_eq_false_iff, decide_eq_false_iff_not] at h
    obtain ⟨⟨h1, h2⟩, h5⟩ := h
    obtain ⟨h6, h7⟩ := okS_sorted r n h5
    have hzn : z < n := (leS_false n z).1 h1
    exact ⟨fun x hx => by
      rcases List.mem_cons.1 hx with rfl | hx
      · exact hzn
      · exact List.lt_trans hzn (h6 x hx), List.pairwise_cons.2 ⟨h6, h7⟩⟩
theorem okM_okS : ∀ (l : List (Bs × Int)) (z : Bs) (f : Bs × Int → Bool), okM z l = true → okS z ((l.filter f).map (·.1)) = true
  | [], _, _, _ => rfl
  | (n, p) :: r, z, f, h => by
    simp only [okM, Bool.and_eq_true, Bool.not_eq_true', Bool.or_eq_false_iff, decide_eq_false_iff_not] at h
    obtain ⟨⟨⟨⟨h1, h2⟩, h3⟩, h4⟩, h5⟩ := h
    by_cases hf : f (n, p) = true
    · rw [List.filter_cons_of_pos hf]
      simp only [List.map_cons, okS, Bool.and_eq_true, Bool.not_eq_true', Bool.or_eq_false_iff, decide_eq_false_iff_not]
      exact ⟨⟨h2, h1⟩, okM_okS r n f h5⟩
    · rw [List.filter_cons_of_neg hf]
      exact okS_low _ (okM_okS r n f h5) h2
end Pl
end Go.Proofs.YtdddcncjmnekcaaGreatDoor
