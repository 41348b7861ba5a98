/- WalkA, ScanP, Trie, AtP, TPut, TGet. -/
import Derived.Test.YtjppbomngnomhaaGreatDoorMx11
set_option linter.unnecessarySimpa false
set_option linter.unusedSimpArgs false
set_option linter.unusedVariables false
set_option maxRecDepth 100000
set_option maxHeartbeats 32000000
namespace Go.Proofs.YtjppbomngnomhaaGreatDoor
open Go.RowKit Pl
abbrev vis (w0 : World) : Value := .func (.func 33) #[] #[.pointer (some ⟨w0.heap.size, 0, none⟩)]
theorem walk_nil (w0 w : World) (place : Bs) (l : List It) (hO : Out w0 w l) :
  Calls Tryz.prog 32 #[.pointer none, .string ⟨List.toArray place⟩, vis w0] w (OutP w0 w (l ++ itemsT place .nil) (.tuple #[])) := by
 rw [show itemsT place .nil = [] from rfl, List.append_nil]
 have HO := Lib.hid hO
 clear hO
 go_enter Tryz.func32, Tryz.ntmps32
 go_wp2_with fail
 refine bodyPost_end (results_none rfl _ _ _) rfl ?_
 exact ⟨rfl, Below.refl _ _, HO.out⟩
theorem walk_ext (w0 : World) (p0 : Bs) (t1 : Tri) (b : Nat) (hT : KAt w0 (.ext p0 t1) (some b)) (place : Bs) (l : List It) (hp : place.length + p0.length ≤ 100000) (hl : l.length ≤ 1000000) (w : World) (hO : Out w0 w l)
  (ih : ∀ (p : Option Nat) (w : World), KAt w0 t1 p → Out w0 w l → Calls Tryz.prog 32 #[ptV p, .string ⟨List.toArray (place ++ p0)⟩, vis w0] w (OutP w0 w (l ++ itemsT (place ++ p0) t1) (.tuple #[]))) :
  Calls Tryz.prog 32 #[.pointer (some ⟨b, 0, none⟩), .string ⟨List.toArray place⟩, vis w0] w (OutP w0 w (l ++ itemsT place (.ext p0 t1)) (.tuple #[])) := by
 rw [items_ext]
 obtain ⟨hne, ps, hps, ⟨c0, c1, c2, _, _, _, c6⟩, hB⟩ := hT.open
 have hbl := hB.lt
 simp only [kindT, pathT, valT] at c0 c1 c2
 have hk0 := hps 0 (by omega)
 rw [show kidsOf (.ext p0 t1) 0 = t1 from by simp [kidsOf, updT]] at hk0
 have HV := Lib.hid (visit_any w0 _ b hT place l hp hl w hO)
 rw [show ownI place (.ext p0 t1) = [] from rfl, List.append_nil] at HV
 have HIH := Lib.hid (ih (ps 0))
 have HK0 := Lib.hid hk0
 have hnl : ¬ 9223372036854775807 < List.length place + List.length p0 := by omega
 clear hps hB c2 hne hT ih hO hk0
 go_enter Tryz.func32, Tryz.ntmps32
 go_wp2_with fail
 refine HV.out.mono ?_
 rintro e w1 ⟨rfl, hb1, hO1⟩
 have hw1 := hO1.below
 have d0 := keepC hw1 c0
 have d1 := keepC hw1 c1
 have d6 := keepC hw1 c6
 have HO1 := Lib.hid hO1
 clear c0 c1 c6 hO1
 go_wp2_with fail
 refine wpH_startB (w0.heap.size) (by kernel_rfl) (fun hS => ?_)
 (refine hP 0 ?_ ⟨some 23, .move (.tmp 0), 66, "", #[], none⟩ hS ?_ ?_; rotate_left; focus (intro w; go_simp; try with_reducible rfl))
 try simp only [pna, pnb, pnc, pnd, pne]
 (refine hP 1 ?_ ⟨some 24, .nilCheck (.tmp 23), 0, "", #[], none⟩ hS ?_ ?_; rotate_left; focus (intro w; go_simp; try with_reducible rfl))
 try simp only [pna, pnb, pnc, pnd, pne]
 (refine hP 2 ?_ ⟨some 25, .fieldAddr 79 (.tmp 24) 1, 0, "", #[], none⟩ hS ?_ ?_; rotate_left; focus (intro w; go_simp; try with_reducible rfl))
 try simp only [pna, pnb, pnc, pnd, pne]
 (refine hP 3 ?_ ⟨some 26, .indexAddr 77 (.tmp 25) (.const (.int .i64 0)), 0, "", #[], none⟩ hS ?_ ?_; rotate_left; focus (intro w; go_simp; try with_reducible rfl))
 try simp only [pna, pnb, pnc, pnd, pne]
 refine wpH_load 4 (ptV (ps 0)) (oi := { dst := some 27, op := Op.load 66 (Operand.tmp 26), type := 66, pos := "knot.go:155", after := #[{ on := 3, ground := Ground.data }], guard := none }) rfl (by kernel_rfl) (by kernel_rfl) (by kernel_rfl) (by rfl) hS (fun _ _ _ h => h) (fun w hb => (by have c := (hb.cell (p := ⟨b, 19, none⟩) hbl).trans d6; go_simp; try rfl)) ?_
 try simp only [pna, pnb, pnc, pnd, pne]
 (refine hP 5 ?_ ⟨some 28, .move (.tmp 1), 9, "", #[], none⟩ hS ?_ ?_; rotate_left; focus (intro w; go_simp; try with_reducible rfl))
 try simp only [pna, pnb, pnc, pnd, pne]
 (refine hP 6 ?_ ⟨some 29, .move (.tmp 0), 66, "", #[], none⟩ hS ?_ ?_; rotate_left; focus (intro w; go_simp; try with_reducible rfl))
 try simp only [pna, pnb, pnc, pnd, pne]
 (refine hP 7 ?_ ⟨some 30, .nilCheck (.tmp 29), 0, "", #[], none⟩ hS ?_ ?_; rotate_left; focus (intro w; go_simp; try with_reducible rfl))
 try simp only [pna, pnb, pnc, pnd, pne]
 (refine hP 8 ?_ ⟨some 31, .fieldAddr 79 (.tmp 30) 0, 0, "", #[], none⟩ hS ?_ ?_; rotate_left; focus (intro w; go_simp; try with_reducible rfl))
 try simp only [pna, pnb, pnc, pnd, pne]
 (refine hP 9 ?_ ⟨some 32, .fieldAddr 76 (.tmp 31) 1, 0, "", #[], none⟩ hS ?_ ?_; rotate_left; focus (intro w; go_simp; try with_reducible rfl))
 try simp only [pna, pnb, pnc, pnd, pne]
 refine wpH_load 10 (.string ⟨List.toArray p0⟩) (oi := { dst := some 33, op := Op.load 9 (Operand.tmp 32), type := 9, pos := "knot.go:155", after := #[{ on := 9, ground := Ground.data }], guard := none }) rfl (by kernel_rfl) (by kernel_rfl) (by kernel_rfl) (by rfl) hS (fun _ _ _ h => h) (fun w hb => (by have c := (hb.cell (p := ⟨b, 1, none⟩) hbl).trans d1; go_simp; try rfl)) ?_
 try simp only [pna, pnb, pnc, pnd, pne]
 (refine hP 11 ?_ ⟨some 34, .binOp .add 9 (.tmp 28) (.tmp 33) 9, 9, "", #[], none⟩ hS ?_ ?_; rotate_left; focus (intro w; go_simp; try with_reducible rfl))
 try simp only [pna, pnb, pnc, pnd, pne]
 (refine hP 12 ?_ ⟨some 35, .move (.tmp 2), 82, "", #[], none⟩ hS ?_ ?_; rotate_left; focus (intro w; go_simp; try with_reducible rfl))
 try simp only [pna, pnb, pnc, pnd, pne]
 refine wpH_call 13 (oi := { dst := some 36, op := Op.call { callee := Callee.value (Operand.func 32), args := #[Operand.tmp 27, Operand.tmp 34, Operand.tmp 35], argTypes := #[66, 9, 82] }, type := 0, pos := "knot.go:155", after := #[{ on := 4, ground := Ground.data }, { on := 11, ground := Ground.data }, { on := 12, ground := Ground.data }], guard := none }) rfl (by kernel_rfl) (by rfl) (HIH.out _ HK0.out (HO1.out.keep (Below.refl _ _).drew)) ?_ ?_
 ·(go_simp; try rfl)
 rintro e w' ⟨rfl, hbx, hO2⟩
 refine ⟨_, rfl, hS.trans hbx, ?_⟩
 replace hS := hS.trans hbx
 try simp only [pna, pnb, pnc, pnd, pne]
 refine wpAnyH_done (by kernel_rfl) ?_ _
 go_wp2_with fail
 refine bodyPost_end (results_none rfl _ _ _) rfl ?_
 exact ⟨rfl, hb1.trans hS, hO2⟩
theorem walk_on (w0 : World) (t : Tri) (b : Nat) (ps : Ps) (hT : KAt w0 t (some b)) (hk2 : kindT t ≠ 2) (place : Bs) (l : List It) (hp : place.length + (pathT t).length ≤ 100000) (hl : l.length + (rp t).length ≤ 100000) (w : World) (hO : Out w0 w l)
  (hB : Blk w0 b (kn (kindT t) (pathT t) (valT t) (kidF fun i => sumT (kidsOf t i)) ps (textT t) (sumT t) (w64 (rp t).length)).toArray)
  (ih : ∀ (i : Nat) (m : List It) (w : World), i < 16 → m.length + (rp (kidsOf t i)).length ≤ 100000 → Out w0 w m → Calls Tryz.prog 32 #[ptV (ps i), .string ⟨List.toArray (place ++ [UInt8.ofNat i])⟩, vis w0] w (OutP w0 w (m ++ itemsT (place ++ [UInt8.ofNat i]) (kidsOf t i)) (.tuple #[]))) :
  Calls Tryz.prog 32 #[.pointer (some ⟨b, 0, none⟩), .string ⟨List.toArray place⟩, vis w0] w (OutP w0 w (l ++ itemsT place t) (.tuple #[])) := by
 have hne := hT.some'.1
 rw [items_on place t hne hk2, ← List.append_assoc]
 have hlen := rp_len t hne
 have hown := own_len place t
 have ho2 : (ownI place t).length = ownN (valT t) := by unfold ownI ownN; split <;> rfl
 have HV := Lib.hid (visit_any w0 t b hT place l hp (by omega) w hO)
 have hl1 : (l ++ ownI place t).length + cntT (kidsOf t) 16 ≤ 100000 := by rw [List.length_append]; omega
 have hbl := hB.lt
 have c0 := hB.kn.kind
 have k2 : (kindT t == 2) = false := by simpa using hk2
 have HB := Lib.hid hB
 have HIH := Lib.hid ih
 clear hne hlen hown ho2 hT hk2 hB ih hl hO
 generalize l ++ ownI place t = l1 at *
 generalize kindT t = kd at *
 generalize kidsOf t = f at *
 go_enter Tryz.func32, Tryz.ntmps32
 go_wp2_with fail
 refine HV.out.mono ?_
 rintro e w1 ⟨rfl, hb1, hO1⟩
 have hw1 := hO1.below
 have d0 := keepC hw1 c0
 have hB1 := HB.out.keep hw1
 have HO1 := Lib.hid hO1
 clear c0 hO1 HB hw1
 go_wp2_with (first
  | (refine wpList_knPtrs rfl (.tmp 39) rfl rfl hB1 ?_)
  | fail)
 clear hB1 d0
 go_loopw [41] (fun s41 wr => ∃ i : Nat, i ≤ 16 ∧ s41 = .int .i64 i ∧ Hid (Out w0 wr (l1 ++ kidI place f i)) ∧ Below w0.heap.size w wr) (fun s41 _ => 16 - (intOf s41).toNat)
 case atStart => exact ⟨0, by omega, rfl, Lib.hid (by rw [show kidI place f 0 = [] from rfl, List.append_nil]; exact HO1.out), hb1⟩
 case round =>
  obtain ⟨i, hi, rfl, HO, hb⟩ := hrel
  by_cases hlt : i < 16
  ·have d1 : (i : Int) < 16 := by omega
   have hki := pk_index ps i hlt
   have hw8 : IntKind.u8.wrap (i : Int) = (i : Int) := by rw [IntKind.wrap_u8]; omega
   have hcl := cntT_le f (i + 1) 16 (by omega)
   rw [cntT] at hcl
   have hkl := kidI_len place f i
   have hnl : ¬ 9223372036854775807 < List.length place + 1 := by omega
   have hbA : Below wr.heap.size wr (wr.alloc (.cells #[.int .u8 (i : Int)] 5)) := Below.allocS (Below.refl _ _) _
   have HK := Lib.hid (HIH.out i (l1 ++ kidI place f i) _ hlt (by rw [List.length_append, hkl]; omega) (HO.out.keep hbA))
   have hwr : w0.heap.size ≤ wr.heap.size := Nat.le_of_lt HO.out.lt
   rw [List.append_assoc, ← kidI_succ] at HK
   clear hcl hkl hlt
   go_wp2_with fail
   refine HK.out.mono ?_
   rintro e w2 ⟨rfl, hb2, hO2⟩
   clear hki
   go_wp2_with fail
   exact ⟨⟨i + 1, by omega, by go_num, Lib.hid hO2, (hb.trans (hbA.mono hwr)).trans hb2⟩, by simp [intOf]; omega⟩
  ·have e : i = 16 := by omega
   subst e
   go_wp2_with fail
   refine bodyPost_end (results_none rfl _ _ _) rfl ?_
   exact ⟨rfl, hb, HO.out⟩
theorem walk_any (w0 : World) : ∀ (t : Tri) (n : Nat), okT t n → n ≤ 400 → ∀ (p : Option Nat) (place : Bs) (l : List It) (w : World), KAt w0 t p → place.length + n ≤ 1000 → l.length + (rp t).length ≤ 100000 → Out w0 w l →
  Calls Tryz.prog 32 #[ptV p, .string ⟨List.toArray place⟩, vis w0] w (OutP w0 w (l ++ itemsT place t) (.tuple #[])) := by
 intro t
 induction t with
 | nil =>
  intro n ho hn p place l w hT hp hl hO
  obtain rfl := hT.isNil
  exact walk_nil w0 w place l hO
 | leaf p0 v0 =>
  intro n ho hn p place l w hT hp hl hO
  obtain ⟨b, rfl⟩ := hT.isKnot (by simp)
  obtain ⟨hne, ps, hps, _, hB⟩ := hT.open
  have hop := ho.2
  refine walk_on w0 (.leaf p0 v0) b ps hT (by simp [kindT]) place l (by simp only [pathT]; omega) hl w hO hB ?_
  intro i m W hi hm hW
  have hki := hps i hi
  rw [show kidsOf (.leaf p0 v0) i = .nil from rfl] at hki ⊢
  rw [hki.isNil]
  exact walk_nil w0 W _ m hW
 | ext p0 t1 ih =>
  intro n ho hn p place l w hT hp hl hO
  obtain ⟨b, rfl⟩ := hT.isKnot (by simp)
  have hop := ho.2.1
  have hrl : (rp (.ext p0 t1)).length = (rp t1).length := by simp [rp]
  refine walk_ext w0 p0 t1 b hT place l (by omega) (by omega) w hO ?_
  intro p' W hT' hW
  exact ih (n - p0.length) ho.2.2.2 (by omega) p' (place ++ p0) l W hT' (by rw [List.length_append]; omega) (by omega) hW
 | br v0 kids ih =>
  intro n ho hn p place l w hT hp hl hO
  obtain ⟨b, rfl⟩ := hT.isKnot (by simp)
  obtain ⟨hne, ps, hps, _, hB⟩ := hT.open
  refine walk_on w0 (.br v0 kids) b ps hT (by simp [kindT]) place l (by simp [pathT]; omega) hl w hO hB ?_
  intro i m W hi hm hW
  have hki := hps i hi
  rw [show kidsOf (.br v0 kids) i = kids i from rfl] at hki hm ⊢
  rcases ho i with h2 | ⟨_, h1, h3⟩
  ·rw [h2] at hki ⊢
   rw [hki.isNil]
   exact walk_nil w0 W _ m hW
  ·exact ih i (n - 1) h3 (by omega) (ps i) _ m W hki (by rw [List.length_append]; simp; omega) hm hW
end Go.Proofs.YtjppbomngnomhaaGreatDoor
namespace Go.Proofs.YtjppbomngnomhaaGreatDoor
namespace Pl
def inR (f e k : Bs) : Bool := !decide (k < f) && (e.isEmpty || decide (k < e))
def wI (f e : Bs) : List It → List It
 | [] => []
 | x :: r => if x.1 < f then wI f e r else if e ≠ [] ∧ ¬ x.1 < e then [] else x :: wI f e r
def allI (f e : Bs) (l : List It) : List It := l.filter fun x => inR f e x.1
theorem lt_of_not {a b : Bs} (h : ¬ a < b) (hn : a ≠ b) : b < a := by
 rcases Classical.em (b < a) with h1 | h1
 ·exact h1
 ·exact absurd (List.le_antisymm (List.not_lt.1 h1) (List.not_lt.1 h)) hn
theorem lt_ge {a b c : Bs} (h : a < b) (h2 : ¬ c < b) : a < c := by
 by_cases e : c = b
 ·rw [e]; exact h
 ·exact List.lt_trans h (lt_of_not h2 e)
theorem wI_all (f e : Bs) : ∀ (l : List It), Rise l → wI f e l = allI f e l
 | [], _ => rfl
 | x :: r, h => by
  unfold Rise at h
  rw [List.pairwise_cons] at h
  have ih := wI_all f e r h.2
  unfold wI allI
  rw [List.filter_cons]
  by_cases h1 : x.1 < f
  ·rw [if_pos h1, if_neg (by simp [inR, h1]), ih]; rfl
  ·rw [if_neg h1]
   by_cases h2 : e ≠ [] ∧ ¬ x.1 < e
   ·rw [if_pos h2, if_neg (by simp [inR, h2.1, h2.2])]
    symm
    rw [List.filter_eq_nil_iff]
    intro y hy
    have h3 := h.1 y hy
    have h4 : ¬ y.1 < e := fun h5 => h2.2 (List.lt_trans h3 h5)
    simp [inR, h2.1, h4]
   ·rw [if_neg h2, if_pos (by
     simp only [ne_eq, not_and, Classical.not_not] at h2
     by_cases h3 : e = []
     ·simp [inR, h1, h3]
     ·simp [inR, h1, h2 h3]), ih]
    rfl
theorem split_at (c : Bs) : ∀ (l : List It), Rise l → l = l.filter (fun x => decide (x.1 < c)) ++ l.filter (fun x => !decide (x.1 < c))
 | [], _ => rfl
 | x :: r, h => by
  unfold Rise at h
  rw [List.pairwise_cons] at h
  have ih := split_at c r h.2
  by_cases h1 : x.1 < c
  ·rw [List.filter_cons, if_pos (by simpa using h1), List.filter_cons, if_neg (by simp [h1]), List.cons_append, ← ih]
  ·have h2 : r.filter (fun x => decide (x.1 < c)) = [] := by
    rw [List.filter_eq_nil_iff]
    intro y hy
    simpa using fun h3 => h1 (List.lt_trans (h.1 y hy) h3)
   rw [h2] at ih
   rw [List.filter_cons, if_neg (by simpa using h1), h2, List.filter_cons, if_pos (by simp [h1]), List.nil_append]
   rw [List.nil_append] at ih
   rw [← ih]
theorem parts (f c e : Bs) (l : List It) (h : Rise l) (h1 : ¬ c < f) (h2 : e = [] ∨ ¬ e < c) (hc : c ≠ []) : allI f e l = allI f c l ++ allI c e l := by
 unfold allI
 conv => lhs; rw [split_at c l h]
 rw [List.filter_append, List.filter_filter, List.filter_filter]
 congr 1
 ·refine List.filter_congr fun x _ => ?_
  unfold inR
  by_cases h3 : x.1 < c
  ·have h4 : e.isEmpty = true ∨ x.1 < e := h2.imp (fun h => by simp [h]) (fun h => lt_ge h3 h)
   rcases h4 with h4 | h4 <;> simp [h3, h4]
  ·simp [h3, hc]
 ·refine List.filter_congr fun x _ => ?_
  unfold inR
  by_cases h3 : x.1 < c
  ·simp [h3]
  ·have h4 : ¬ x.1 < f := fun h5 => h3 (lt_ge h5 h1)
   simp [h3, h4]
def keyB (k : Bs) : Bool := decide (1 ≤ k.length) && decide (k.length ≤ 8)
def hasK (k : Bs) (l : List It) : Bool := l.any fun x => x.1 == k
def putE (l : List It) (k v : Bs) : Int := if keyB k = false then 1 else if v.length < 1 ∨ 32 < v.length ∨ (hasK k l = false ∧ 1024 ≤ l.length) then 2 else 0
structure GoodI (l : List It) : Prop where
 rise : Rise l
 keys : ∀ x ∈ l, x.1.length ≤ 8
 many : l.length ≤ 1024
theorem GoodI.nil : GoodI [] := ⟨by simp [Rise], by simp, by simp⟩
theorem insI_has : ∀ (k v : Bs) (l : List It), Rise l → hasK k l = true → (insI k v l).length = l.length
 | k, v, [], _, h => by simp [hasK] at h
 | k, v, x :: r, hr, h => by
  unfold Rise at hr
  rw [List.pairwise_cons] at hr
  unfold insI
  by_cases h1 : x.1 < k
  ·rw [if_pos h1]
   have h2 : hasK k r = true := by
    unfold hasK at h ⊢
    rw [List.any_cons] at h
    have : (x.1 == k) = false := by simpa using fun e => List.lt_irrefl _ (e ▸ h1)
    simpa [this] using h
   simp [insI_has k v r hr.2 h2]
  ·rw [if_neg h1]
   by_cases h2 : x.1 = k
   ·rw [if_pos h2]; simp
   ·exfalso
    have h3 := lt_of_not h1 h2
    unfold hasK at h
    rw [List.any_eq_true] at h
    obtain ⟨y, hy, e⟩ := h
    have e' : y.1 = k := by simpa using e
    rcases List.mem_cons.1 hy with rfl | hy
    ·exact h2 e'
    ·exact List.lt_irrefl _ (List.lt_trans h3 (e' ▸ hr.1 y hy))
theorem GoodI.put {l : List It} (h : GoodI l) (k v : Bs) (he : putE l k v = 0) : GoodI (insI k v l) ∧ k.length ≤ 8 ∧ v ≠ [] ∧ k ≠ [] := by
 unfold putE at he
 split at he
 ·cases he
 ·rename_i hk
  split at he
  ·cases he
  ·rename_i hv
   simp only [keyB, Bool.not_eq_false, Bool.and_eq_true, decide_eq_true_eq] at hk
   simp only [not_or, not_and] at hv
   refine ⟨⟨insI_rise _ _ _ h.rise, fun x hx => ?_, ?_⟩, hk.2, fun e => by rw [e] at hv; simp at hv, fun e => by rw [e] at hk; simp at hk⟩
   ·rcases (insI_mem k v l h.rise x).1 hx with h1 | h1
    ·rw [h1]; exact hk.2
    ·exact h.keys x h1.1
   ·cases hh : hasK k l with
    | true => rw [insI_has k v l h.rise hh]; exact h.many
    | false =>
     have h1 := hv.2.2 hh
     have h2 := insI_len k v l
     have h3 := h.many
     omega
theorem look_has {t : Tri} {L : List It} (h : RepT t L) (k : Bs) : look t (ofP k) = [] ↔ hasK k L = false := by
 have hm := rp_mem t 16 h.ok (ofP k)
 rw [h.items] at hm
 constructor
 ·intro e
  cases hh : hasK k L with
  | false => rfl
  | true =>
   exfalso
   unfold hasK at hh
   rw [List.any_eq_true] at hh
   obtain ⟨y, hy, e2⟩ := hh
   have e' : y.1 = k := by simpa using e2
   have := (hm y.2).1 (by unfold pathsI; rw [List.mem_map]; exact ⟨y, hy, by rw [e']⟩)
   rw [e] at this
   exact this.2 this.1.symm
 ·intro hh
  refine Classical.byContradiction fun hn => ?_
  have := (hm _).2 ⟨rfl, hn⟩
  unfold pathsI at this
  rw [List.mem_map] at this
  obtain ⟨y, hy, e⟩ := this
  have e1 : y.1 = k := ofP_inj (by injection e)
  have : hasK k L = true := by
   unfold hasK
   rw [List.any_eq_true]
   exact ⟨y, hy, by simpa using e1⟩
  rw [hh] at this
  cases this
end Pl
end Go.Proofs.YtjppbomngnomhaaGreatDoor
namespace Go.Proofs.YtjppbomngnomhaaGreatDoor
open Go.RowKit Pl
def TAt (w : World) (pt : Nat) (t : Tri) : Prop := ∃ kp, Blk w pt #[ptV kp] ∧ KAt w t kp
theorem TAt.keep {W w : World} (hb : Below W.heap.size W w) {pt : Nat} {t : Tri} (h : TAt W pt t) : TAt w pt t := by
 obtain ⟨kp, h1, h2⟩ := h
 exact ⟨kp, h1.keep hb, h2.keep hb⟩
theorem itemsT_out {t : Tri} {L : List It} (h : RepT t L) : itemsT [] t = L := by
 rw [← h.out]
 simp [itemsT]
def RowP (B : Nat) (w : World) (l : List It) (e : Ending) (w' : World) : Prop := ∃ v, e = .returned v ∧ IRow w' B v l ∧ Below B w w'
theorem titems_any (pt : Nat) (t : Tri) (L : List It) (hR : RepT t L) (hL : L.length ≤ 100000) (w : World) (hT : TAt w pt t) :
  Calls Tryz.prog 18 #[.pointer (some ⟨pt, 0, none⟩)] w (RowP w.heap.size w L) := by
 obtain ⟨kp, hB, hK⟩ := hT
 have hrl : (rp t).length ≤ 100000 := by rw [hR.len]; exact hL
 have hb0 : Below w.heap.size w (w.alloc (.cells #[.slice none 0 0] 27)) := Below.allocS (Below.refl _ _) _
 have hO : Out w (w.alloc (.cells #[.slice none 0 0] 27)) [] :=
  ⟨hb0, ⟨.slice none 0 0, by simp, IRow.nil _ _⟩, by simp, by simp⟩
 have HW := Lib.hid (walk_any w t 16 hR.ok (by omega) kp [] [] _ hK (by simp) (by simpa using hrl) hO)
 rw [itemsT_out hR, List.nil_append] at HW
 have c0 : (w.alloc (.cells #[.slice none 0 0] 27)).cell? ⟨pt, 0, none⟩ = some (ptV kp) := keepC hb0 (hB.cell 0)
 have hsz := hO.lt
 clear hB hK hR hO hrl hb0
 go_enter Tryz.func18, Tryz.ntmps18
 go_wp2_with fail
 refine HW.out.mono ?_
 rintro e w1 ⟨rfl, hb1, hO1⟩
 obtain ⟨v, e1, r1⟩ := hO1.row
 obtain ⟨va, vc, rfl⟩ := r1.form
 have hb2 := hO1.below
 have hr2 : IRow w1 w.heap.size (.slice va L.length vc) L := ⟨r1.1, r1.2.imp id (fun ⟨g, cap, cur, h1, h2, h3⟩ => ⟨g, cap, cur, h1, Nat.le_of_lt h2, h3⟩)⟩
 have HR2 := Lib.hid hr2
 clear hO1 r1 hr2 c0 hsz
 go_wp2_with fail
 go_ret
 exact ⟨_, rfl, HR2.out, hb2⟩
theorem tlen_any (pt : Nat) (t : Tri) (hL : (rp t).length ≤ 100000) (w : World) (hT : TAt w pt t) :
  Calls Tryz.prog 46 #[.pointer (some ⟨pt, 0, none⟩)] w fun e w' => e = .returned (.int .i64 ((rp t).length)) ∧ w = w' := by
 obtain ⟨kp, hB, hK⟩ := hT
 have c0 := hB.cell 0
 cases kp with
 | none =>
  obtain rfl := hK.none'
  rw [show (rp .nil).length = 0 from rfl]
  rw [ptV_none] at c0
  have c1 : w.cell? ⟨pt, 0, none⟩ = some (.pointer none) := c0
  clear hB hK c0 hL
  go_enter Tryz.func46, Tryz.ntmps46
  go_wp2_with fail
  go_ret
  exact ⟨rfl, rfl⟩
 | some b =>
  obtain ⟨_, ps, _, ⟨_, _, _, _, _, d5, _⟩, _⟩ := hK.open
  rw [w64_small _ (by omega)] at d5
  have c1 : w.cell? ⟨pt, 0, none⟩ = some (.pointer (some ⟨b, 0, none⟩)) := c0
  clear hB hK c0
  generalize (rp t).length = n at *
  go_enter Tryz.func46, Tryz.ntmps46
  go_wp2_with fail
  go_ret
  exact ⟨rfl, rfl⟩
theorem tkeyed_any (k : Bs) (hk : k.length ≤ 9223372036854775807) (w : World) : Calls Tryz.prog 45 #[.string ⟨List.toArray k⟩] w fun e w' => e = .returned (.bool (keyB k)) ∧ w = w' := by
 generalize hz : keyB k = z
 have HZ := Lib.hid hz
 clear hz
 cases k with
 | nil =>
  have HE : Hid (z = false) := Lib.hid (by rw [← HZ.out]; rfl)
  go_enter Tryz.func45, Tryz.ntmps45
  go_wp2_with fail
  go_ret
  exact ⟨by rw [HE.out]; rfl, rfl⟩
 | cons a r =>
  by_cases h : (a :: r).length ≤ 8
  ·have HE : Hid (z = true) := Lib.hid (by rw [← HZ.out]; unfold keyB; simp at h ⊢; omega)
   have d : decide (((a :: r).length : Int) ≤ 8) = true := by simp only [decide_eq_true_eq]; omega
   clear HZ h
   generalize hg : (a :: r) = k at *
   have he : k.isEmpty = false := by rw [← hg]; rfl
   clear hg
   go_enter Tryz.func45, Tryz.ntmps45
   go_wp2_with fail
   go_ret
   exact ⟨by rw [HE.out]; rfl, rfl⟩
  ·have HE : Hid (z = false) := Lib.hid (by rw [← HZ.out]; unfold keyB; simp at h ⊢; omega)
   have d : decide (((a :: r).length : Int) ≤ 8) = false := by simp only [decide_eq_false_iff_not]; omega
   clear HZ h
   generalize hg : (a :: r) = k at *
   have he : k.isEmpty = false := by rw [← hg]; rfl
   clear hg
   go_enter Tryz.func45, Tryz.ntmps45
   go_wp2_with fail
   go_ret
   exact ⟨by rw [HE.out]; rfl, rfl⟩
end Go.Proofs.YtjppbomngnomhaaGreatDoor
namespace Go.Proofs.YtjppbomngnomhaaGreatDoor
namespace Pl
theorem putE_cases (L : List It) (k v : Bs) : (putE L k v = 1 ∧ keyB k = false) ∨ (putE L k v = 2 ∧ keyB k = true ∧ ((v.length < 1 ∨ 32 < v.length) ∨ ((1 ≤ v.length ∧ v.length ≤ 32) ∧ hasK k L = false ∧ 1024 ≤ L.length))) ∨
  (putE L k v = 0 ∧ keyB k = true ∧ (1 ≤ v.length ∧ v.length ≤ 32) ∧ (hasK k L = true ∨ L.length < 1024)) := by
 unfold putE
 by_cases h1 : keyB k = false
 ·exact .inl ⟨by rw [if_pos h1], h1⟩
 ·rw [if_neg h1]
  have h1' : keyB k = true := by simpa using h1
  by_cases h2 : v.length < 1 ∨ 32 < v.length ∨ (hasK k L = false ∧ 1024 ≤ L.length)
  ·rw [if_pos h2]
   refine .inr (.inl ⟨rfl, h1', ?_⟩)
   rcases h2 with h | h | h
   ·exact .inl (.inl h)
   ·exact .inl (.inr h)
   ·by_cases h3 : v.length < 1 ∨ 32 < v.length
    ·exact .inl h3
    ·exact .inr ⟨by omega, h⟩
  ·rw [if_neg h2]
   refine .inr (.inr ⟨rfl, h1', by omega, ?_⟩)
   by_cases h3 : hasK k L = true
   ·exact .inl h3
   ·right
    have h4 : hasK k L = false := by simpa using h3
    rcases Nat.lt_or_ge L.length 1024 with h5 | h5
    ·exact h5
    ·exact absurd (.inr (.inr ⟨h4, h5⟩)) h2
end Pl
end Go.Proofs.YtjppbomngnomhaaGreatDoor
namespace Go.Proofs.YtjppbomngnomhaaGreatDoor
open Go.RowKit Pl
def NoP (B : Nat) (w : World) (c : Int) (e : Ending) (w' : World) : Prop := e = .returned (.tuple #[.pointer none, .int .i64 c]) ∧ Below B w w'
def YesP (B : Nat) (w : World) (t : Tri) (e : Ending) (w' : World) : Prop := ∃ pt, e = .returned (.tuple #[.pointer (some ⟨pt, 0, none⟩), .int .i64 0]) ∧ Below B w w' ∧ TAt w' pt t
theorem tput_no1 (pt : Nat) (k v : Bs) (hk : k.length ≤ 9223372036854775807) (h : keyB k = false) (w : World) :
  Calls Tryz.prog 28 #[.pointer (some ⟨pt, 0, none⟩), .string ⟨List.toArray k⟩, .string ⟨List.toArray v⟩] w (NoP w.heap.size w 1) := by
 have HK := Lib.hid (tkeyed_any k hk w)
 rw [h] at HK
 clear h
 go_enter Tryz.func28, Tryz.ntmps28
 go_wp2_with fail
 refine HK.out.mono ?_
 rintro e w1 ⟨rfl, rfl⟩
 go_wp2_with fail
 go_ret2
 exact ⟨rfl, Below.refl _ _⟩
theorem tput_no2 (pt : Nat) (k v : Bs) (hk : k.length ≤ 9223372036854775807) (hvl : v.length ≤ 9223372036854775807) (h : keyB k = true) (hv : v.length < 1 ∨ 32 < v.length) (w : World) :
  Calls Tryz.prog 28 #[.pointer (some ⟨pt, 0, none⟩), .string ⟨List.toArray k⟩, .string ⟨List.toArray v⟩] w (NoP w.heap.size w 2) := by
 have HK := Lib.hid (tkeyed_any k hk w)
 rw [h] at HK
 clear h
 by_cases h0 : v = []
 ·subst h0
  clear hv
  go_enter Tryz.func28, Tryz.ntmps28
  go_wp2_with fail
  refine HK.out.mono ?_
  rintro e w1 ⟨rfl, rfl⟩
  go_wp2_with fail
  go_ret2
  exact ⟨rfl, Below.refl _ _⟩
 ·have hl : 1 ≤ v.length := by
   rcases Nat.eq_zero_or_pos v.length with h | h
   ·exact absurd (List.length_eq_zero_iff.1 h) h0
   ·exact h
  have d : decide ((32 : Int) < (v.length : Int)) = true := by simp only [decide_eq_true_eq]; omega
  have he : v.isEmpty = false := by simpa using h0
  clear h0 hv hl
  go_enter Tryz.func28, Tryz.ntmps28
  go_wp2_with fail
  refine HK.out.mono ?_
  rintro e w1 ⟨rfl, rfl⟩
  go_wp2_with fail
  go_ret2
  exact ⟨rfl, Below.refl _ _⟩
theorem tput_no3 (pt : Nat) (t : Tri) (L : List It) (k v : Bs) (h : keyB k = true) (hv : 1 ≤ v.length ∧ v.length ≤ 32) (hR : RepT t L) (hL : L.length ≤ 1024) (hh : hasK k L = false) (hm : 1024 ≤ L.length) (w : World) (hT : TAt w pt t) :
  Calls Tryz.prog 28 #[.pointer (some ⟨pt, 0, none⟩), .string ⟨List.toArray k⟩, .string ⟨List.toArray v⟩] w (NoP w.heap.size w 2) := by
 have hkl : 1 ≤ k.length ∧ k.length ≤ 8 := by simpa [keyB] using h
 have HK := Lib.hid (tkeyed_any k (by omega) w)
 rw [h] at HK
 have hlen : ∀ W, Below w.heap.size w W → Calls Tryz.prog 46 #[.pointer (some ⟨pt, 0, none⟩)] W fun e w' => e = .returned (.int .i64 ((rp t).length)) ∧ W = w' := fun W hb => tlen_any pt t (by rw [hR.len]; omega) W (hT.keep hb)
 rw [hR.len, show L.length = 1024 from by omega] at hlen
 have hlk : Pl.look t (ofP k) = [] := (look_has hR k).2 hh
 have hget : ∀ kp W, KAt W t kp → Calls Tryz.prog 47 #[ptV kp, .string ⟨List.toArray (ofP k)⟩] W fun e w' => e = .returned (.string ⟨List.toArray []⟩) ∧ ∃ n, w' = W.drewN n := fun kp W hK => by
  have := get_any t 16 (by omega) kp (ofP k) (by rw [ofP_len]; omega) (ofP_fit k) hR.ok W hK
  rwa [hlk] at this
 have HLN := Lib.hid hlen
 have HGT := Lib.hid hget
 have HOF := Lib.hid (nof_any k (by omega))
 have HT := Lib.hid hT
 have d : decide ((32 : Int) < (v.length : Int)) = false := by simp only [decide_eq_false_iff_not]; omega
 have he : v.isEmpty = false := by cases v <;> simp at hv ⊢
 clear h hR hL hh hm hT hlen hlk hget hv
 generalize ofP k = q at *
 go_enter Tryz.func28, Tryz.ntmps28
 go_wp2_with fail
 refine HK.out.mono ?_
 rintro e w1 ⟨rfl, rfl⟩
 go_wp2_with fail
 refine (HOF.out _).mono ?_
 rintro e w2 ⟨rfl, hb2⟩
 obtain ⟨kp, hB, hKA⟩ := HT.out.keep hb2
 have c0 : w2.cell? ⟨pt, 0, none⟩ = some (ptV kp) := hB.cell 0
 clear hB
 go_wp2_with fail
 refine (HLN.out _ hb2).mono ?_
 rintro e w3 ⟨rfl, rfl⟩
 go_wp2_with fail
 refine (HGT.out kp _ hKA).mono ?_
 rintro e w4 ⟨rfl, n4, rfl⟩
 go_wp2_with fail
 go_ret2
 exact ⟨rfl, below_drewN hb2 _⟩
theorem tput_yes (pt : Nat) (t : Tri) (L : List It) (k v : Bs) (h : keyB k = true) (hv : 1 ≤ v.length ∧ v.length ≤ 32) (hR : RepT t L) (hL : L.length ≤ 1024) (hh : hasK k L = true ∨ L.length < 1024) (w : World) (hk : KT w) (hT : TAt w pt t) :
  Calls Tryz.prog 28 #[.pointer (some ⟨pt, 0, none⟩), .string ⟨List.toArray k⟩, .string ⟨List.toArray v⟩] w (YesP w.heap.size w (putT t (ofP k) v)) := by
 have hkl : 1 ≤ k.length ∧ k.length ≤ 8 := by simpa [keyB] using h
 have HK := Lib.hid (tkeyed_any k (by omega) w)
 rw [h] at HK
 have hlen : ∀ W, Below w.heap.size w W → Calls Tryz.prog 46 #[.pointer (some ⟨pt, 0, none⟩)] W fun e w' => e = .returned (.int .i64 ((rp t).length)) ∧ W = w' := fun W hb => tlen_any pt t (by rw [hR.len]; omega) W (hT.keep hb)
 rw [hR.len] at hlen
 have HLN := Lib.hid hlen
 have HGT := Lib.hid (fun kp W hK => get_any t 16 (by omega) kp (ofP k) (by rw [ofP_len]; omega) (ofP_fit k) hR.ok W hK)
 have HPU := Lib.hid (fun kp W (hk : KT W) hK => put_any v t 16 (by omega) (ofP k) (by rw [ofP_len]; omega) (ofP_fit k) hR.ok kp W hk hK)
 have HOF := Lib.hid (nof_any k (by omega))
 have HT := Lib.hid hT
 have HKT := Lib.hid hk
 have d : decide ((32 : Int) < (v.length : Int)) = false := by simp only [decide_eq_false_iff_not]; omega
 have he : v.isEmpty = false := by cases v <;> simp at hv ⊢
 have HNE := Lib.hid (look_has hR k)
 have HRL := Lib.hid hR.len
 clear h hT hlen hv hk hR
 generalize putT t (ofP k) v = t2 at *
 generalize Pl.look t (ofP k) = lk at *
 generalize ofP k = q at *
 by_cases hm : L.length < 1024
 ·have d2 : decide ((1024 : Int) ≤ (L.length : Int)) = false := by simp only [decide_eq_false_iff_not]; omega
  clear hh hm
  go_enter Tryz.func28, Tryz.ntmps28
  go_wp2_with fail
  refine HK.out.mono ?_
  rintro e w1 ⟨rfl, rfl⟩
  go_wp2_with fail
  refine (HOF.out _).mono ?_
  rintro e w2 ⟨rfl, hb2⟩
  obtain ⟨kp, hB, hKA⟩ := HT.out.keep hb2
  have c0 : w2.cell? ⟨pt, 0, none⟩ = some (ptV kp) := hB.cell 0
  clear hB
  go_wp2_with fail
  refine (HLN.out _ hb2).mono ?_
  rintro e w3 ⟨rfl, rfl⟩
  go_wp2_with fail
  refine (HPU.out kp _ (HKT.out.keep hb2) hKA).mono ?_
  rintro e w4 ⟨b4, rfl, hb4, hK4⟩
  go_wp2_with fail
  go_ret2
  exact ⟨_, rfl, Below.allocS (hb2.trans (hb4.mono hb2.size)) _, some b4, Blk.new _ _ _, hK4.keep (Below.allocS (Below.refl _ _) _)⟩
 ·have d2 : decide ((1024 : Int) ≤ (L.length : Int)) = true := by simp only [decide_eq_true_eq]; omega
  have hlk : lk ≠ [] := fun e => by
   have h1 := HNE.out.1 e
   rcases hh with h2 | h2
   ·rw [h1] at h2; cases h2
   ·exact hm h2
  have hle : lk.isEmpty = false := by simpa using hlk
  clear hh hm hlk
  go_enter Tryz.func28, Tryz.ntmps28
  go_wp2_with fail
  refine HK.out.mono ?_
  rintro e w1 ⟨rfl, rfl⟩
  go_wp2_with fail
  refine (HOF.out _).mono ?_
  rintro e w2 ⟨rfl, hb2⟩
  obtain ⟨kp, hB, hKA⟩ := HT.out.keep hb2
  have c0 : w2.cell? ⟨pt, 0, none⟩ = some (ptV kp) := hB.cell 0
  clear hB
  go_wp2_with fail
  refine (HLN.out _ hb2).mono ?_
  rintro e w3 ⟨rfl, rfl⟩
  go_wp2_with fail
  refine (HGT.out kp _ hKA).mono ?_
  rintro e w4 ⟨rfl, n4, rfl⟩
  go_wp2_with fail
  refine (HPU.out kp _ (HKT.out.keep (below_drewN hb2 _)) (hKA.keep (below_drewN (Below.refl _ _) _))).mono ?_
  rintro e w5 ⟨b4, rfl, hb4, hK4⟩
  go_wp2_with fail
  go_ret2
  exact ⟨_, rfl, Below.allocS ((below_drewN hb2 n4).trans (hb4.mono hb2.size)) _, some b4, Blk.new _ _ _, hK4.keep (Below.allocS (Below.refl _ _) _)⟩
end Go.Proofs.YtjppbomngnomhaaGreatDoor
namespace Go.Proofs.YtjppbomngnomhaaGreatDoor
open Go.RowKit Pl
def getK (t : Tri) (k : Bs) : Bs × Int := if keyB k = true then (if Pl.look t (ofP k) = [] then ([], 5) else (Pl.look t (ofP k), 0)) else ([], 1)
theorem getK_no {t : Tri} {k : Bs} (h : keyB k = false) : getK t k = ([], 1) := by unfold getK; rw [if_neg (by rw [h]; simp)]
theorem getK_none {t : Tri} {k : Bs} (h : keyB k = true) (h2 : Pl.look t (ofP k) = []) : getK t k = ([], 5) := by unfold getK; rw [if_pos h, if_pos h2]
theorem getK_some {t : Tri} {k : Bs} (h : keyB k = true) (h2 : Pl.look t (ofP k) ≠ []) : getK t k = (Pl.look t (ofP k), 0) := by unfold getK; rw [if_pos h, if_neg h2]
theorem tget_any (pt : Nat) (t : Tri) (ho : okT t 16) (k : Bs) (hk : k.length ≤ 9223372036854775807) (w : World) (hT : TAt w pt t) :
  Calls Tryz.prog 42 #[.pointer (some ⟨pt, 0, none⟩), .string ⟨List.toArray k⟩] w fun e w' => e = .returned (.tuple #[.string ⟨List.toArray ((getK t k).1)⟩, .int .i64 ((getK t k).2)]) ∧ Below w.heap.size w w' := by
 have HK := Lib.hid (tkeyed_any k hk w)
 cases hb : keyB k
 ·rw [getK_no hb]
  rw [hb] at HK
  clear hT hb
  go_enter Tryz.func42, Tryz.ntmps42
  go_wp2_with fail
  refine HK.out.mono ?_
  rintro e w1 ⟨rfl, rfl⟩
  go_wp2_with fail
  go_ret2
  exact ⟨rfl, Below.refl _ _⟩
 ·rw [hb] at HK
  have hkl : 1 ≤ k.length ∧ k.length ≤ 8 := by simpa [keyB] using hb
  have HGT := Lib.hid (fun kp W hK => get_any t 16 (by omega) kp (ofP k) (by rw [ofP_len]; omega) (ofP_fit k) ho W hK)
  have HOF := Lib.hid (nof_any k (by omega))
  obtain ⟨kp, hB, hKA⟩ := hT
  have c0 : w.cell? ⟨pt, 0, none⟩ = some (ptV kp) := hB.cell 0
  have HKA := Lib.hid hKA
  have HN := Lib.hid (getK_none (t := t) hb)
  have HS := Lib.hid (getK_some (t := t) hb)
  clear hB hKA hb hkl
  generalize getK t k = g at *
  generalize Pl.look t (ofP k) = lk at *
  generalize ofP k = q at *
  go_enter Tryz.func42, Tryz.ntmps42
  go_wp2_with fail
  refine HK.out.mono ?_
  rintro e w1 ⟨rfl, rfl⟩
  go_wp2_with fail
  refine wpH_start (by kernel_rfl) (fun hS => ?_)
  (refine hP 0 ?_ ⟨some 10, .move (.tmp 0), 40, "", #[], none⟩ hS ?_ ?_; rotate_left; focus (intro w; go_simp; try with_reducible rfl))
  try simp only [pna, pnb, pnc, pnd, pne]
  (refine hP 1 ?_ ⟨some 11, .nilCheck (.tmp 10), 0, "", #[], none⟩ hS ?_ ?_; rotate_left; focus (intro w; go_simp; try with_reducible rfl))
  try simp only [pna, pnb, pnc, pnd, pne]
  (refine hP 2 ?_ ⟨some 12, .fieldAddr 68 (.tmp 11) 0, 0, "", #[], none⟩ hS ?_ ?_; rotate_left; focus (intro w; go_simp; try with_reducible rfl))
  try simp only [pna, pnb, pnc, pnd, pne]
  refine wpH_load 3 (ptV kp) (oi := { dst := some 13, op := Op.load 66 (Operand.tmp 12), type := 66, pos := "trie.go:35", after := #[{ on := 2, ground := Ground.data }], guard := none }) rfl (by kernel_rfl) (by kernel_rfl) (by kernel_rfl) (by rfl) hS (fun _ _ _ h => h) (fun w' hb => (by have c := keepC hb c0; go_simp; try rfl)) ?_
  try simp only [pna, pnb, pnc, pnd, pne]
  (refine hP 4 ?_ ⟨some 14, .move (.tmp 1), 9, "", #[], none⟩ hS ?_ ?_; rotate_left; focus (intro w; go_simp; try with_reducible rfl))
  try simp only [pna, pnb, pnc, pnd, pne]
  refine wpH_call 5 (oi := { dst := some 15, op := Op.call { callee := Callee.value (Operand.func 44), args := #[Operand.tmp 14], argTypes := #[9] }, type := 9, pos := "trie.go:35", after := #[{ on := 4, ground := Ground.data }], guard := none }) rfl (by kernel_rfl) (by rfl) (HOF.out _) ?_ ?_
  ·(go_simp; try rfl)
  rintro e w' ⟨rfl, hbx⟩
  refine ⟨_, rfl, hS.trans (hbx.mono hS.size), ?_⟩
  replace hS := hS.trans (hbx.mono hS.size)
  try simp only [pna, pnb, pnc, pnd, pne]
  refine wpH_call 6 (oi := { dst := some 16, op := Op.call { callee := Callee.value (Operand.func 47), args := #[Operand.tmp 13, Operand.tmp 15], argTypes := #[66, 9] }, type := 9, pos := "trie.go:35", after := #[{ on := 3, ground := Ground.data }, { on := 5, ground := Ground.data }, { on := 5, ground := Ground.chain }], guard := none }) rfl (by kernel_rfl) (by rfl) (HGT.out kp _ (HKA.out.keep hS)) ?_ ?_
  ·(go_simp; try rfl)
  rintro e w' ⟨rfl, nn, rfl⟩
  refine ⟨_, rfl, below_drewN hS nn, ?_⟩
  replace hS := below_drewN hS nn
  try simp only [pna, pnb, pnc, pnd, pne]
  (refine hP 7 ?_ ⟨some 6, .assign (.tmp 16), 9, "", #[], none⟩ hS ?_ ?_; rotate_left; focus (intro w; go_simp; try with_reducible rfl))
  try simp only [pna, pnb, pnc, pnd, pne]
  refine wpAnyH_done (by kernel_rfl) ?_ _
  have hb2 := hS
  by_cases hl : lk = []
  ·have he := HN.out hl
   subst hl he
   go_wp2_with fail
   go_ret2
   exact ⟨rfl, hb2⟩
  ·have he := HS.out hl
   subst he
   have h1 : lk.isEmpty = false := by simpa using hl
   have h2 : (lk == []) = false := by simpa using hl
   clear hl
   go_wp2_with fail
   go_ret2
   exact ⟨rfl, hb2⟩
def DelP' (B : Nat) (w : World) (t : Tri) (k : Bs) (e : Ending) (w' : World) : Prop :=
 Below B w w' ∧ (((getK t k).2 ≠ 0 ∧ e = .returned (.tuple #[.pointer none, .int .i64 ((getK t k).2)])) ∨ ((getK t k).2 = 0 ∧ ∃ pt, e = .returned (.tuple #[.pointer (some ⟨pt, 0, none⟩), .int .i64 0]) ∧ TAt w' pt (delT t (ofP k))))
theorem getK_zero {t : Tri} {k : Bs} (h : (getK t k).2 = 0) : keyB k = true ∧ Pl.look t (ofP k) ≠ [] := by
 unfold getK at h
 split at h
 ·rename_i hk
  split at h
  ·cases h
  ·exact ⟨hk, by assumption⟩
 ·cases h
theorem tdel_any (pt : Nat) (t : Tri) (ho : okT t 16) (hc : canT t) (k : Bs) (hk : k.length ≤ 9223372036854775807) (w : World) (hkt : KT w) (hT : TAt w pt t) :
  Calls Tryz.prog 27 #[.pointer (some ⟨pt, 0, none⟩), .string ⟨List.toArray k⟩] w (DelP' w.heap.size w t k) := by
 have HG := Lib.hid (tget_any pt t ho k hk w hT)
 by_cases h0 : (getK t k).2 = 0
 ·obtain ⟨hkb, hlk⟩ := getK_zero h0
  have hkl : 1 ≤ k.length ∧ k.length ≤ 8 := by simpa [keyB] using hkb
  have HP : Hid (∀ e w', (Below w.heap.size w w' ∧ ∃ pt, e = .returned (.tuple #[.pointer (some ⟨pt, 0, none⟩), .int .i64 0]) ∧ TAt w' pt (delT t (ofP k))) → DelP' w.heap.size w t k e w') := Lib.hid (fun e w' h => ⟨h.1, .inr ⟨h0, h.2⟩⟩)
  have HOF := Lib.hid (nof_any k (by omega))
  have HD := Lib.hid (fun p W hk hK => del_any t 16 (by omega) (ofP k) (by rw [ofP_len]; omega) (ofP_fit k) ho hc hlk p W hk hK)
  have HKT := Lib.hid hkt
  have HT := Lib.hid hT
  rw [h0] at HG
  clear hT hkl hlk hkt h0 hkb
  generalize DelP' w.heap.size w t k = Q at *
  generalize delT t (ofP k) = t2 at *
  generalize ofP k = q at *
  generalize (getK t k).1 = g at *
  go_enter Tryz.func27, Tryz.ntmps27
  go_wp2_with fail
  refine HG.out.mono ?_
  rintro e w1 ⟨rfl, hb1⟩
  obtain ⟨kp, hB, hKA⟩ := HT.out.keep hb1
  have c0 : w1.cell? ⟨pt, 0, none⟩ = some (ptV kp) := hB.cell 0
  have HKA := Lib.hid hKA
  have HK1 := Lib.hid (HKT.out.keep hb1)
  clear hB hKA HG
  go_wp2_with fail
  refine wpH_start (by kernel_rfl) (fun hS => ?_)
  (refine hP 0 ?_ ⟨some 17, .move (.tmp 0), 40, "", #[], none⟩ hS ?_ ?_; rotate_left; focus (intro w; go_simp; try with_reducible rfl))
  try simp only [pna, pnb, pnc, pnd, pne]
  (refine hP 1 ?_ ⟨some 18, .nilCheck (.tmp 17), 0, "", #[], none⟩ hS ?_ ?_; rotate_left; focus (intro w; go_simp; try with_reducible rfl))
  try simp only [pna, pnb, pnc, pnd, pne]
  (refine hP 2 ?_ ⟨some 19, .fieldAddr 68 (.tmp 18) 0, 0, "", #[], none⟩ hS ?_ ?_; rotate_left; focus (intro w; go_simp; try with_reducible rfl))
  try simp only [pna, pnb, pnc, pnd, pne]
  refine wpH_load 3 (ptV kp) (oi := { dst := some 20, op := Op.load 66 (Operand.tmp 19), type := 66, pos := "trie.go:62", after := #[{ on := 2, ground := Ground.data }], guard := none }) rfl (by kernel_rfl) (by kernel_rfl) (by kernel_rfl) (by rfl) hS (fun _ _ _ h => h) (fun w' hb => (by have c := keepC hb c0; go_simp; try rfl)) ?_
  try simp only [pna, pnb, pnc, pnd, pne]
  (refine hP 4 ?_ ⟨some 21, .move (.tmp 1), 9, "", #[], none⟩ hS ?_ ?_; rotate_left; focus (intro w; go_simp; try with_reducible rfl))
  try simp only [pna, pnb, pnc, pnd, pne]
  refine wpH_call 5 (oi := { dst := some 22, op := Op.call { callee := Callee.value (Operand.func 44), args := #[Operand.tmp 21], argTypes := #[9] }, type := 9, pos := "trie.go:62", after := #[{ on := 4, ground := Ground.data }], guard := none }) rfl (by kernel_rfl) (by rfl) (HOF.out _) ?_ ?_
  ·(go_simp; try rfl)
  rintro e w' ⟨rfl, hbx⟩
  refine ⟨_, rfl, hS.trans (hbx.mono hS.size), ?_⟩
  replace hS := hS.trans (hbx.mono hS.size)
  try simp only [pna, pnb, pnc, pnd, pne]
  refine wpH_call 6 (oi := { dst := some 23, op := Op.call { callee := Callee.value (Operand.func 43), args := #[Operand.tmp 20, Operand.tmp 22], argTypes := #[66, 9] }, type := 66, pos := "trie.go:62", after := #[{ on := 3, ground := Ground.data }, { on := 5, ground := Ground.data }, { on := 5, ground := Ground.chain }], guard := none }) rfl (by kernel_rfl) (by rfl) (HD.out kp _ (HK1.out.keep hS) (HKA.out.keep hS)) ?_ ?_
  ·(go_simp; try rfl)
  rintro e w' ⟨p3, rfl, hb3, hK3⟩
  refine ⟨_, rfl, hS.trans (hb3.mono hS.size), ?_⟩
  replace hS := hS.trans (hb3.mono hS.size)
  try simp only [pna, pnb, pnc, pnd, pne]
  refine wpH_load 7 (.agg #[ptV p3]) (oi := { dst := some 24, op := Op.build 68 #[(0, Operand.tmp 23)], type := 68, pos := "trie.go:62", after := #[{ on := 6, ground := Ground.data }], guard := none }) rfl (by kernel_rfl) (by kernel_rfl) (by kernel_rfl) (by rfl) hS (fun _ _ _ h => h) (fun w' hb => (by cases p3 <;> simp only [ptV_none, ptV_some] <;> go_simp <;> try rfl)) ?_
  try simp only [pna, pnb, pnc, pnd, pne]
  refine wpH_op 8 (oi := { dst := some 25, op := Op.box 68 (Operand.tmp 24), type := 40, pos := "trie.go:62", after := #[{ on := 7, ground := Ground.data }], guard := none }) rfl (by kernel_rfl) (by rfl) ?_
  refine wp_newK 68 #[ptV p3] (fun m => .pointer (some ⟨m, 0, none⟩)) (fun w => by cases p3 <;> simp only [ptV_none, ptV_some] <;> go_simp <;> try rfl) ?_
  intro m wk hm hh hmk hbk
  have hK4 := hK3.keep hbk
  replace hS := hS.trans (hbk.mono hS.size)
  refine ⟨hS, ?_⟩
  try simp only [pna, pnb, pnc, pnd, pne]
  (refine hP 9 ?_ ⟨some 4, .assign (.tmp 25), 40, "", #[], none⟩ hS ?_ ?_; rotate_left; focus (intro w; go_simp; try with_reducible rfl))
  try simp only [pna, pnb, pnc, pnd, pne]
  (refine hP 10 ?_ ⟨some 5, .assign (.const (.int .i64 0)), 30, "", #[], none⟩ hS ?_ ?_; rotate_left; focus (intro w; go_simp; try with_reducible rfl))
  try simp only [pna, pnb, pnc, pnd, pne]
  refine wpAnyH_done (by kernel_rfl) ?_ _
  go_wp2_with fail
  exact HP.out _ _ ⟨hb1.trans (hS.mono hb1.size), m, rfl, p3, Blk.of_heap hh hmk, hK4⟩
 ·have HP : Hid (∀ e w', (Below w.heap.size w w' ∧ e = .returned (.tuple #[.pointer none, .int .i64 ((getK t k).2)])) → DelP' w.heap.size w t k e w') := Lib.hid (fun e w' h => ⟨h.1, .inl ⟨h0, h.2⟩⟩)
  generalize DelP' w.heap.size w t k = Q at *
  generalize (getK t k).1 = g at *
  generalize (getK t k).2 = c at *
  have h1 : (c == 0) = false := by simpa using h0
  have h2 : (c != 0) = true := by simpa using h0
  clear h0 hT hkt
  go_enter Tryz.func27, Tryz.ntmps27
  go_wp2_with fail
  refine HG.out.mono ?_
  rintro e w1 ⟨rfl, hb1⟩
  clear HG
  go_wp2_with fail
  exact HP.out _ _ ⟨hb1, rfl⟩
theorem troot_any (pt : Nat) (t : Tri) (w : World) (hT : TAt w pt t) :
  Calls Tryz.prog 16 #[.pointer (some ⟨pt, 0, none⟩)] w fun e w' => e = .returned (.string ⟨List.toArray (sumT t)⟩) ∧ w = w' := by
 obtain ⟨kp, hB, hK⟩ := hT
 have c0 := hB.cell 0
 cases kp with
 | none =>
  obtain rfl := hK.none'
  rw [show sumT .nil = [] from rfl]
  rw [ptV_none] at c0
  have c1 : w.cell? ⟨pt, 0, none⟩ = some (.pointer none) := c0
  clear hB hK c0
  go_enter Tryz.func16, Tryz.ntmps16
  go_wp2_with fail
  go_ret
  exact ⟨rfl, rfl⟩
 | some b =>
  obtain ⟨_, ps, _, ⟨_, _, _, _, d4, d5, _⟩, _⟩ := hK.open
  have c1 : w.cell? ⟨pt, 0, none⟩ = some (.pointer (some ⟨b, 0, none⟩)) := c0
  clear hB hK c0
  generalize sumT t = n at *
  go_enter Tryz.func16, Tryz.ntmps16
  go_wp2_with fail
  go_ret
  exact ⟨rfl, rfl⟩
end Go.Proofs.YtjppbomngnomhaaGreatDoor
