/- RDrop, MRef. -/
import Derived.Test.YthgjdaomcpinaaaGreatDoorMp32
set_option linter.unnecessarySimpa false
set_option linter.unusedSimpArgs false
set_option linter.unusedVariables false
set_option maxRecDepth 100000
set_option maxHeartbeats 32000000
namespace Go.Proofs.YthgjdaomcpinaaaGreatDoor
open Go.RowKit Go.WideMaps Go.Maps Go.Sort Go.Shelf Pl
def rdropG : List Int → List Tr → Option (List Tr)
 | [], l => some l
 | h :: r, l => if thereL h l = true then rdropG r (withoutL l h) else none
theorem rdropG_no {h : Int} {r : List Int} {l : List Tr} (hh : thereL h l = false) : rdropG (h :: r) l = none := by unfold rdropG; rw [hh]; rfl
theorem rdropG_yes {h : Int} {r : List Int} {l : List Tr} (hh : thereL h l = true) : rdropG (h :: r) l = rdropG r (withoutL l h) := by rw [rdropG]; rw [if_pos hh]
def rres (l l' : List Tr) (d : Dk) (b : Bool) (bt : List Bs) : List Tr × Dk × Bool × Int := if bt = [] then (l, d, b, 0) else (if (wrS d b bt).2.2 = 0 then l' else l, (wrS d b bt).1, (wrS d b bt).2.1, (wrS d b bt).2.2)
def rdropR (d : Dk) (b : Bool) (l : List Tr) (hs : List Int) : List Tr × Dk × Bool × Int := match rdropG hs l with | some l' => rres l l' d b (goesT hs) | none => (l, d, b, 5)
theorem rdropR_no {d : Dk} {b : Bool} {l : List Tr} {hs : List Int} (h : rdropG hs l = none) : rdropR d b l hs = (l, d, b, 5) := by unfold rdropR; rw [h]
theorem rdropR_yes {d : Dk} {b : Bool} {l l' : List Tr} {hs : List Int} (h : rdropG hs l = some l') : rdropR d b l hs = rres l l' d b (goesT hs) := by unfold rdropR; rw [h]
theorem withoutL_mem {l : List Tr} {h : Int} {t : Tr} (hm : t ∈ withoutL l h) : t ∈ l := by
 unfold withoutL at hm
 rcases List.mem_append.1 hm with hm | hm
 ·exact List.mem_of_mem_take hm
 ·exact List.mem_of_mem_drop hm
theorem withoutL_len (l : List Tr) (h : Int) : (withoutL l h).length ≤ l.length := by
 unfold withoutL
 rw [List.length_append, List.length_take, List.length_drop]
 omega
theorem thereL_mem (h : Int) : ∀ l, thereL h l = true → ∃ t ∈ l, t.head.height = h
 | [], he => by cases he
 | t :: r, he => by
  unfold thereL at he
  split at he
  ·obtain ⟨u, hu, e⟩ := thereL_mem h r he
   exact ⟨u, List.mem_cons_of_mem _ hu, e⟩
  ·exact ⟨t, List.mem_cons_self, by simpa using he⟩
theorem TLA.grown {w w' : World} {av : List Nat} {v s s' : Value} {l : List Tr} (h : TLA w (av ++ s.ownBlock.toList) v l) (hg : w.grownBy w' s.ownBlock) (hs : s'.ownBlock = s.ownBlock ∨ s'.ownBlock = some w.heap.size) : TLA w' (av ++ s'.ownBlock.toList) v l := by
 have h2 : TLA w (av ++ s.ownBlock.toList ++ s'.ownBlock.toList) v l := h.sub (fun x hx => by
  rcases List.mem_append.1 hx with hx | hx
  ·exact .inl hx
  ·rcases hs with e | e
   ·rw [e] at hx; exact .inl (List.mem_append.2 (.inr hx))
   ·rw [e] at hx; simp at hx; exact .inr (by omega))
 exact (h2.modl (grown_modO hg) (fun x hx => .inl (List.mem_append.2 (.inl (List.mem_append.2 (.inr hx)))))).sub (fun x hx => by
  rcases List.mem_append.1 hx with hx | hx
  ·exact .inl (List.mem_append.2 (.inl (List.mem_append.2 (.inl hx))))
  ·exact .inl (List.mem_append.2 (.inr hx)))
theorem rdrop_any (av : List Nat) (lv : Value) (l : List Tr) (sp : Int) (d : Dk) (b : Bool) (v : Value) (hs : List Int) (hl : l.length ≤ 1000) (hn : hs.length ≤ 1000) (hcl : ∀ t ∈ l, 0 ≤ t.head.height ∧ t.head.height ≤ 9223372036854775807) (hm : (∃ l', rdropG hs l = some l') → mayR (goesT hs) = true)
  (hf : -9223372036854775807 ≤ d.fuse ∧ d.fuse ≤ 9223372036854775807) (hrm : 0 ≤ d.room ∧ d.room ≤ 1048576) (hsl : d.s.length ≤ 1048576) (w : World) (hlv : TLA w av lv l) (hv : IS w v hs) (hav : ∀ x ∈ av, x < w.heap.size) :
  Calls Tryz.prog 39 #[stv lv sp d b, v] w fun e w' => ∃ v', e = .returned (.tuple #[stv v' sp (rdropR d b l hs).2.1 (rdropR d b l hs).2.2.1, .int .i64 ((rdropR d b l hs).2.2.2)]) ∧ TLA w' av v' (rdropR d b l hs).1 ∧ Below w.heap.size w w' := by
 obtain ⟨la, lc, rfl⟩ := hlv.form
 obtain ⟨a, cap, rfl⟩ := hv.form
 have hhs := hv.small
 have qw := fun W (l' : List Tr) (v6 v7 : Value) (hne : goesT hs ≠ []) (hbt : (goesT hs).length ≤ 1000) (hmy : mayR (goesT hs) = true) (h6 : SS W v6 (goesT hs)) (na : Option Addr) (nn nc : Nat) => rstwrite_any la l.length lc na nn nc sp d b v6 (goesT hs) hne hbt hmy hf hrm hsl W h6
 have HQW := Lib.hid qw
 obtain ⟨s, safe, room, fuse, down⟩ := d
 obtain ⟨B1, B2, hb2⟩ := two_st w (.slice la l.length lc) sp ⟨s, safe, room, fuse, down⟩ b
 obtain ⟨W2, hW2⟩ : ∃ W2, W2 = ((w.alloc (.cells (stcs (.slice la l.length lc) sp ⟨s, safe, room, fuse, down⟩ b).toArray 76)).alloc (.cells zst.toArray 76)) := ⟨_, rfl⟩
 rw [← hW2] at B1 B2 hb2
 have HW := Lib.hid hW2
 have hws : W2.heap.size = w.heap.size + 2 := by rw [hW2]; simp
 obtain ⟨m1, m2, m3⟩ := id B1
 have HB1 := Lib.hid B1
 have HB2 := Lib.hid B2
 have HLV := Lib.hid hlv
 have HV := Lib.hid hv
 have HM := Lib.hid hm
 have HAV := Lib.hid hav
 have H0 : Hid (TLA W2 ((w.heap.size + 1) :: av ++ (Value.slice none 0 0).ownBlock.toList) (.slice la l.length lc) l) := Lib.hid ((hlv.sub (bv := (w.heap.size + 1) :: av ++ (Value.slice none 0 0).ownBlock.toList) (fun x hx => by
  rcases List.mem_append.1 hx with hx | hx
  ·rcases List.mem_cons.1 hx with rfl | hx
   ·exact .inr (by omega)
   ·exact .inl hx
  ·cases hx)).keep hb2)
 have HCL := Lib.hid hcl
 have HLL := Lib.hid hl
 have HHN := Lib.hid hn
 have HD0 : Hid (rdropG hs l = rdropG (hs.drop 0) l) := Lib.hid rfl
 have HNO := Lib.hid (fun h => rdropR_no (d := ⟨s, safe, room, fuse, down⟩) (b := b) (l := l) (hs := hs) h)
 have HYE := Lib.hid (fun l' h => rdropR_yes (d := ⟨s, safe, room, fuse, down⟩) (b := b) (l := l) (l' := l') (hs := hs) h)
 generalize rdropR ⟨s, safe, room, fuse, down⟩ b l hs = R at *
 clear hW2 B1 B2 hlv hv hm hav qw hcl hl hn hf hrm hsl
 go_enter Tryz.func39, Tryz.ntmps39
 go_wp2_with fail
 rw [← HW.out]
 go_loopw [6, 7, 8] (fun s6 s7 s8 wr => ∃ (i : Nat) (li : List Tr), i ≤ hs.length ∧ s8 = .int .i64 i ∧ SRow wr W2.heap.size s6 (goesT (hs.take i)) ∧ Hid (TLA wr ((w.heap.size + 1) :: av ++ s6.ownBlock.toList) s7 li) ∧ Hid (rdropG hs l = rdropG (hs.drop i) li) ∧ Hid (∀ t ∈ li, t ∈ l) ∧ li.length ≤ l.length ∧ Below W2.heap.size W2 wr) (fun _ _ s8 _ => hs.length - (intOf s8).toNat)
 case atStart => exact ⟨0, l, by omega, rfl, SRow.nil _ _, H0, HD0, Lib.hid (fun t ht => ht), Nat.le_refl _, Below.refl _ _⟩
 case round =>
  obtain ⟨i, li, hi, rfl, hS, HL7, HDi, HSUB, hll, hbr⟩ := hrel
  clear H0 HD0
  have B1r := HB1.out.keep hbr
  have B2r := HB2.out.keep hbr
  have hwr := hb2.trans (hbr.mono (by omega))
  have hsr := hbr.size
  obtain ⟨va, vc, rfl⟩ := HL7.out.form
  obtain ⟨sa, sc, rfl⟩ := hS.form
  by_cases hlt : i < hs.length
  ·have hbd : 0 ≤ (i : Int) ∧ (i : Int) < (hs.length : Int) := by omega
   obtain ⟨g, off, e1, hg, c1⟩ := ((HV.out).keep hwr).at' i hlt
   subst e1
   have HSN := Lib.hid (goes_snoc hs i hlt)
   have HDR := Lib.hid (dropZ hs i hlt)
   have HBL : Hid ((goesT (hs.take i)).length ≤ 1000) := Lib.hid (by rw [goes_len, List.length_take]; have := HHN.out; omega)
   generalize hs.getD i 0 = k at *
   generalize goesT (hs.take i) = BT at *
   have q1 := fun W (hb : Below wr.heap.size wr W) => rfind_any _ _ li k W (HL7.out.keep hb)
   have HTN : Hid (thereL k li = false → rdropG hs l = none) := Lib.hid (fun e => by rw [HDi.out, HDR.out]; exact rdropG_no e)
   have HTY : Hid (thereL k li = true → rdropG hs l = rdropG (hs.drop (i + 1)) (withoutL li k)) := Lib.hid (fun e => by rw [HDi.out, HDR.out]; exact rdropG_yes e)
   have q2 := fun W hth (hb : Below wr.heap.size wr W) => rwithout_any _ _ li k (by have := HLL.out; omega) hth W (HL7.out.keep hb) (fun x hx => by
    have h9 := hb.size
    rcases List.mem_append.1 hx with hx | hx
    ·rcases List.mem_cons.1 hx with rfl | hx
     ·omega
     ·have := HAV.out x hx; omega
    ·rw [Option.mem_toList] at hx
     have := (row_ltO hS hx).2
     omega)
   have HQ2 := Lib.hid q2
   have HKP : Hid (thereL k li = true → 0 ≤ k ∧ k ≤ 9223372036854775807) := Lib.hid (fun e => by
    obtain ⟨t, ht, e2⟩ := thereL_mem k li e
    rw [← e2]
    exact HCL.out t (HSUB.out t ht))
   have HLN := Lib.hid (withoutL_len li k)
   have HSUB2 : Hid (∀ t ∈ withoutL li k, t ∈ l) := Lib.hid (fun t ht => HSUB.out t (withoutL_mem ht))
   generalize findN k li = fn at *
   generalize thereL k li = th at *
   clear q2 HDi HDR HV hlt HCL
   go_wp2_with fail
   refine (q1 _ (Below.refl _ _)).mono ?_
   rintro e w3 ⟨rfl, hb3⟩
   have hs3 := hb3.size
   have B13 := B1r.keep hb3
   have B23 := B2r.keep hb3
   have hw3 := hwr.trans (hb3.mono hwr.size)
   have c13 := (hb3.cell (p := ⟨g, off + i, none⟩) hg).trans c1
   clear q1 c1 m1 m2 m3 B1r B2r
   cases th
   ·have HR := Lib.hid (HNO.out (HTN.out rfl))
    clear HNO HYE HTN HTY HM HKP HQ2 hS HL7 HSN HQW
    go_wp2_with (first
     | (refine wpList_rowLoad row_st rfl (.tmp 2) rfl rfl (vs := stcs (.slice la l.length lc) sp ⟨s, safe, room, fuse, down⟩ b) rfl B13 ?_)
     | (refine wpList_rowStore row_st rfl rfl (.tmp 4) (.tmp 30) rfl rfl rfl (vs := stcs (.slice la l.length lc) sp ⟨s, safe, room, fuse, down⟩ b) rfl (stcs_one _ _ _ _ _ _) (us := zst) rfl B23 ?_; intro w6 N6 m6))
    have hb6 := mod_two hw3 m6 (by omega) (by omega)
    refine bodyPost_ret (res_st2 rfl _ _ (.slice la l.length lc) sp ⟨s, safe, room, fuse, down⟩ b _ rfl N6) rfl ?_
    rw [HR.out]
    exact ⟨_, rfl, HLV.out.keep hb6, hb6⟩
   ·have hkp := HKP.out rfl
    obtain ⟨kn, rfl⟩ : ∃ kn : Nat, k = kn := ⟨k.toNat, by omega⟩
    have HD2 := Lib.hid (HTY.out rfl)
    have q2 := HQ2.out
    have q4 := fun W => rNumber_any kn (by omega) W
    have hnl := num_len kn
    have HSN2 : Hid (goesT (hs.take (i + 1)) = BT ++ [2 :: num kn]) := Lib.hid (by rw [HSN.out]; rfl)
    have hbl := HBL.out
    clear HNO HYE HTN HTY HM HKP HQ2 HSN HQW
    go_wp2_with fail
    refine (q2 _ trivial hb3).mono ?_
    rintro e w4 ⟨v7, rfl, hL4, hb⟩
    have hb4 := hb3.trans (hb.mono hb3.size)
    have c14 := (hb.cell (p := ⟨g, off + i, none⟩) (show g < w3.heap.size by omega)).trans c13
    have hs4 := hb.size
    obtain ⟨wa, wc, rfl⟩ := hL4.form
    have HL4 := Lib.hid hL4
    clear q2 hb c13 hL4
    go_wp2_with fail
    refine (q4 _).mono ?_
    rintro e w5 ⟨rfl, hb⟩
    have hb5 := hb4.trans (hb.mono hb4.size)
    have hs5 := hb.size
    have HL5 := Lib.hid (HL4.out.keep hb)
    have hS5 := hS.keep hb5
    clear q4 hb c14 HL4
    generalize num kn = nk at *
    have hcat : ¬ 9223372036854775807 < 1 + nk.length := by omega
    have hcat2 : ¬ 9223372036854775807 < nk.length + 1 := by omega
    go_wp2_with (first
     | (at_builtin; refine wpList_appAtT rfl (.tmp 37) (.tmp 44) rfl W2.heap.size _ BT rfl (hS5.keep (Below.allocS (Below.refl _ _) _)) _ [2 :: nk] rfl ⟨some ⟨w5.heap.size, 0, none⟩, 1, rfl, by simp, by unfold maxLen; simp, fun _ => ⟨w5.heap.size, 0, rfl, by simp, ssrc1 _ _ _⟩⟩ (by simp; omega) (by simp; omega) ?_; rintro v8 w8 hS8 hg8 ho8)
     | fail)
    have hb8 := grown_below hg8 (base := W2.heap.size) (by simp; omega) (fun k hk => (row_ltO hS5 hk).1)
    have HL8 : Hid (TLA w8 ((w.heap.size + 1) :: av ++ v8.ownBlock.toList) (.slice wa (withoutL li kn).length wc) (withoutL li kn)) := Lib.hid (TLA.grown (HL5.out.keep (Below.allocS (Below.refl _ _) _)) hg8 ho8)
    have hb9 := hbr.trans ((Below.allocS hb5 (.cells #[.string ⟨List.toArray (2 :: nk)⟩] 9)).mono hsr)
    rw [← HSN2.out] at hS8
    exact ⟨⟨i + 1, withoutL li kn, by omega, by go_num, hS8, HL8, HD2, HSUB2, by have := HLN.out; omega, hb9.trans hb8⟩, by simp [intOf]; omega⟩
  ·have hil : i = hs.length := by omega
   subst hil
   rw [List.take_length] at hS
   have HG : Hid (rdropG hs l = some li) := Lib.hid (by rw [HDi.out, List.drop_length]; rfl)
   have HR := Lib.hid (HYE.out li HG.out)
   have hmy := HM.out ⟨li, HG.out⟩
   have hgl : (goesT hs).length = hs.length := goes_len hs
   have hHN := HHN.out
   by_cases h0 : hs = []
   ·subst h0
    have HR2 : Hid (R = (l, ⟨s, safe, room, fuse, down⟩, b, 0)) := Lib.hid (by rw [HR.out]; rfl)
    have q := fun W => rstwrite_nil la l.length lc va li.length vc sp ⟨s, safe, room, fuse, down⟩ b sa sc W
    clear HNO HYE HM HQW HR HG HDi hgl hmy HHN
    go_wp2_with (first
     | (refine wpList_rowLoad row_st rfl (.tmp 2) rfl rfl (vs := stcs (.slice la l.length lc) sp ⟨s, safe, room, fuse, down⟩ b) rfl B1r ?_) | fail)
    refine (q _).mono ?_
    rintro e w3 ⟨rfl, hb3⟩
    have hw3 := hwr.trans (hb3.mono hwr.size)
    have B23 := B2r.keep hb3
    have hs3 := hb3.size
    go_wp2_with (first
     | (refine wpList_rowStore row_st rfl rfl (.tmp 4) (.tmp 50) rfl rfl rfl (vs := stcs (.slice la l.length lc) sp ⟨s, safe, room, fuse, down⟩ b) rfl (stcs_one _ _ _ _ _ _) (us := zst) rfl B23 ?_; intro w6 N6 m6) | fail)
    have hb6 := mod_two hw3 m6 (by omega) (by omega)
    refine bodyPost_ret (res_st2 rfl _ _ (.slice la l.length lc) sp ⟨s, safe, room, fuse, down⟩ b _ rfl N6) rfl ?_
    rw [HR2.out]
    exact ⟨_, rfl, HLV.out.keep hb6, hb6⟩
   ·have hne : goesT hs ≠ [] := fun e => h0 (List.length_eq_zero_iff.1 (by rw [← hgl, e]; rfl))
    have q := HQW.out wr li (.slice sa (goesT hs).length sc) (.slice va li.length vc) hne (by omega) hmy hS.ss va li.length vc
    have HR2 : Hid (R = (if (wrS ⟨s, safe, room, fuse, down⟩ b (goesT hs)).2.2 = 0 then li else l, (wrS ⟨s, safe, room, fuse, down⟩ b (goesT hs)).1, (wrS ⟨s, safe, room, fuse, down⟩ b (goesT hs)).2.1, (wrS ⟨s, safe, room, fuse, down⟩ b (goesT hs)).2.2)) := Lib.hid (by rw [HR.out]; exact if_neg hne)
    generalize wrS ⟨s, safe, room, fuse, down⟩ b (goesT hs) = Y at *
    obtain ⟨⟨s1, sf1, rm1, fu1, dn1⟩, b1, cc⟩ := Y
    clear HNO HYE HM HQW HR HG HDi hmy HHN hne hgl hHN
    go_wp2_with (first
     | (refine wpList_rowLoad row_st rfl (.tmp 2) rfl rfl (vs := stcs (.slice la l.length lc) sp ⟨s, safe, room, fuse, down⟩ b) rfl B1r ?_) | fail)
    refine q.mono ?_
    rintro e w3 ⟨rfl, hb3⟩
    have hw3 := hwr.trans (hb3.mono hwr.size)
    have B23 := B2r.keep hb3
    have hs3 := hb3.size
    have HL3 := Lib.hid (HL7.out.keep hb3)
    clear q
    by_cases hc0 : cc = 0
    ·subst hc0
     go_wp2_with (first
      | (refine wpList_rowStore row_st rfl rfl (.tmp 4) (.tmp 50) rfl rfl rfl (vs := stcs (.slice va li.length vc) sp ⟨s1, sf1, rm1, fu1, dn1⟩ b1) rfl (stcs_one _ _ _ _ _ _) (us := zst) rfl B23 ?_; intro w6 N6 m6) | fail)
     have hb6 := mod_two hw3 m6 (by omega) (by omega)
     refine bodyPost_ret (res_st2 rfl _ _ (.slice va li.length vc) sp ⟨s1, sf1, rm1, fu1, dn1⟩ b1 _ rfl N6) rfl ?_
     rw [HR2.out]
     refine ⟨_, rfl, ?_, hb6⟩
     rw [if_pos trivial]
     exact (HL3.out.modl m6 (by simp)).sub (fun x hx => .inl (by simp [hx]))
    ·have HRL : Hid (rL cc (.slice va li.length vc) (.slice la l.length lc) = .slice la l.length lc) := Lib.hid (if_neg hc0)
     rw [HRL.out]
     go_wp2_with (first
      | (refine wpList_rowStore row_st rfl rfl (.tmp 4) (.tmp 50) rfl rfl rfl (vs := stcs (.slice la l.length lc) sp ⟨s1, sf1, rm1, fu1, dn1⟩ b1) rfl (stcs_one _ _ _ _ _ _) (us := zst) rfl B23 ?_; intro w6 N6 m6) | fail)
     have hb6 := mod_two hw3 m6 (by omega) (by omega)
     refine bodyPost_ret (res_st2 rfl _ _ (.slice la l.length lc) sp ⟨s1, sf1, rm1, fu1, dn1⟩ b1 _ rfl N6) rfl ?_
     rw [HR2.out]
     refine ⟨_, rfl, ?_, hb6⟩
     rw [if_neg hc0]
     exact HLV.out.keep hb6
end Go.Proofs.YthgjdaomcpinaaaGreatDoor
namespace Go.Proofs.YthgjdaomcpinaaaGreatDoor
open Go.RowKit Pl
theorem drewN_two (w : World) (q n : Nat) : (w.drewN q).drewN n = w.drewN (q + n) := by
 first | exact World.drewN_drewN _ _ _ | simp
theorem leS_nil (z : Bs) : leS [] z = true := by
 cases z <;> simp [leS, Op.bytesLess]
theorem leS_zero (n : Bs) (h : n ≠ []) : leS n [] = false := by
 cases n with
 | nil => exact absurd rfl h
 | cons a r => simp [leS, Op.bytesLess]
theorem rmcheck_any (v : Value) (l : List (Bs × Int)) (w : World) (hv : MS w v l) :
  Calls Tryz.prog 100 #[v] w fun e w' => e = .returned (.int .i64 (setI (chkM l))) ∧ ∃ n, w' = w.drewN n := by
 generalize hr : setI (chkM l) = r
 have HR := Lib.hid hr
 clear hr
 obtain ⟨a, c, rfl⟩ := hv.form
 have hm := hv.small
 have HV := Lib.hid hv
 by_cases h0 : l.length = 0
 ·rw [h0]
  clear HV hv
  go_enter Tryz.func100, Tryz.ntmps100
  go_wp2_with fail
  all_goals (go_ret; refine ⟨?_, 0, rfl⟩; rw [← HR.out]; simp [chkM, h0, setI])
 ·by_cases h7 : 7 < l.length
  ·have hd : decide ((7 : Int) < (l.length : Int)) = true := by simp; omega
   have hd0 : decide ((l.length : Int) < 1) = false := by simp; omega
   clear HV hv
   go_enter Tryz.func100, Tryz.ntmps100
   go_wp2_with fail
   all_goals (go_ret; refine ⟨?_, 0, rfl⟩; rw [← HR.out]; have : ¬ l.length ≤ 7 := (by omega); simp [chkM, this, setI])
  ·have hd : decide ((7 : Int) < (l.length : Int)) = false := by simp; omega
   have hd0 : decide ((l.length : Int) < 1) = false := by simp; omega
   have HR2 : Hid (setI (okM [] l) = r) := Lib.hid (by rw [← HR.out]; have : l.length ≤ 7 := (by omega); simp [chkM, this, h0])
   clear HR hv h0
   go_enter Tryz.func100, Tryz.ntmps100
   go_wp2_with fail
   go_loopw [3] (fun s3 wr => ∃ i : Nat, i ≤ l.length ∧ s3 = .int .i64 i ∧ Hid (setI (okM (lastN l i) (l.drop i)) = r) ∧ ∃ q, wr = w.drewN q) (fun s3 _ => l.length - (intOf s3).toNat)
   case atStart => exact ⟨0, by omega, rfl, HR2, 0, rfl⟩
   case round =>
    obtain ⟨i, hi, rfl, HI, q, rfl⟩ := hrel
    by_cases hlt : i < l.length
    ·have hlt' : (i : Int) < (l.length : Int) := by omega
     obtain ⟨g, off, rfl, hg, c1, c2⟩ := HV.out.at i hlt
     have hi2 := HI.out
     rw [drop_getD l i hlt] at hi2
     have hnx : lastN l (i + 1) = (l.getD i ([], 0)).1 := rfl
     generalize hx : l.getD i ([], 0) = x at *
     obtain ⟨n, p⟩ := x
     simp only at c1 c2 hnx
     unfold okM at hi2
     by_cases hne : n = []
     ·subst hne
      rw [leS_nil] at hi2
      have HI2 : Hid (50 = r) := Lib.hid (by rw [← hi2]; simp [setI])
      clear HI hi2 HR2
      go_wp2_with fail
      all_goals (go_ret; refine ⟨?_, q, rfl⟩; rw [← HI2.out]; rfl)
     ·have hn1 : 0 < n.length := List.length_pos_iff.2 hne
      have hn2 : decide ((n.length : Int) < 1) = false := by simp; omega
      have hn3 : ¬ ((n.length : Int) < 1) := by omega
      cases hb : decide ((6 : Int) < (n.length : Int)) || decide (p < 1) || decide (1000 < p)
      ·simp only [Bool.or_eq_false_iff] at hb
       obtain ⟨⟨e1, e2⟩, e3⟩ := hb
       rw [e1, e2, e3] at hi2
       by_cases hi0 : i = 0
       ·subst hi0
        have hz : lastN l 0 = [] := rfl
        rw [hz, leS_zero n hne] at hi2
        have HI2 : Hid (setI (okM n (l.drop 1)) = r) := Lib.hid (by rw [← hi2]; simp)
        clear HI hi2 HR2 hz
        rw [Nat.zero_mul, Nat.add_zero] at c1 c2
        go_wp2_with fail
        go_quiet (fail)
        go_wp2_with fail
        exact ⟨⟨1, by omega, by go_num, by rw [hnx]; exact HI2, _, rfl⟩, by simp [intOf]; omega⟩
       ·obtain ⟨j, hj⟩ : ∃ j, i = j + 1 := ⟨i - 1, by omega⟩
        obtain ⟨g', off', hgo, hg', c3, c4⟩ := HV.out.at j (by omega)
        injection hgo with hgo
        injection hgo with hgo1 hgo2
        subst hgo1 hgo2
        have hz : lastN l i = (l.getD j ([], 0)).1 := by rw [hj]; rfl
        rw [← hz] at c3
        have q1 : IntKind.i64.wrap ((i : Int) - 1) = (j : Int) := by rw [show (i : Int) - 1 = (j : Int) from by omega]; exact IntWalk.i64_in _ (by omega)
        have q2 : (j : Int) < (l.length : Int) := by omega
        have q3 : decide ((0 : Int) < (i : Int)) = true := by rw [decide_eq_true_iff]; omega
        have q4 : (0 : Int) < (i : Int) := by omega
        have q5 : 0 < i := by omega
        have q6 : ¬ i = 0 := hi0
        generalize lastN l i = z at *
        clear c4 HI HR2 hj hz
        cases hle : leS n z
        ·rw [hle] at hi2
         have HI2 : Hid (setI (okM n (l.drop (i + 1))) = r) := Lib.hid (by rw [← hi2]; simp)
         clear hi2
         go_wp2_with fail
         go_quiet (fail)
         go_wp2_with fail
         exact ⟨⟨i + 1, by omega, by go_num, by rw [hnx]; exact HI2, _, rfl⟩, by simp [intOf]; omega⟩
        ·rw [hle] at hi2
         have HI2 : Hid (50 = r) := Lib.hid (by rw [← hi2]; simp [setI])
         clear hi2
         go_wp2_with fail
         go_quiet (fail)
         go_wp2_with fail
         all_goals (go_ret; refine ⟨?_, _, drewN_two _ _ _⟩; rw [← HI2.out]; rfl)
      ·have HI2 : Hid (50 = r) := Lib.hid (by
        rw [← hi2]
        simp only [Bool.or_eq_true] at hb
        rcases hb with (hb | hb) | hb <;> rw [hb] <;> simp [setI])
       clear hi2 HI HR2
       go_wp2_with fail
       all_goals (go_ret; refine ⟨?_, _, rfl⟩; rw [← HI2.out]; rfl)
    ·obtain rfl : i = l.length := by omega
     go_wp2_with fail
     all_goals (go_ret; refine ⟨?_, q, rfl⟩; rw [← HI.out]; simp [okM, setI])
theorem rmencode_any (v : Value) (l : List (Bs × Int)) (w : World) (hv : MS w v l) :
  Calls Tryz.prog 102 #[v] w fun e w' => e = .returned (.tuple #[.string ⟨List.toArray ((encMR l).1)⟩, .int .i64 ((encMR l).2)]) ∧ Below w.heap.size w w' := by
 generalize hr : encMR l = r
 have HR := Lib.hid hr
 clear hr
 obtain ⟨a, c, rfl⟩ := hv.form
 have hm := hv.small
 have hchk := rmcheck_any _ l w hv
 have HV := Lib.hid hv
 clear hv
 cases hc : chkM l
 ·rw [hc] at hchk
  have HC := Lib.hid hchk
  have HR2 : Hid (([], 50) = r) := Lib.hid (by rw [← HR.out]; simp [encMR, hc])
  clear hchk hc HR HV
  go_enter Tryz.func102, Tryz.ntmps102
  go_wp2_with fail
  refine HC.out.mono ?_
  rintro e w1 ⟨rfl, q, rfl⟩
  unfold setI
  go_wp2_with fail
  all_goals (go_ret2; refine ⟨?_, below_drewN (Below.refl _ _) _⟩; rw [← HR2.out]; rfl)
 ·rw [hc] at hchk
  have HC := Lib.hid hchk
  have HR2 : Hid ((encM l, 0) = r) := Lib.hid (by rw [← HR.out]; simp [encMR, hc])
  simp only [chkM, Bool.and_eq_true, decide_eq_true_eq] at hc
  have h7 := hc.1.2
  have HO := Lib.hid (okM_at l [] hc.2)
  have HB := Lib.hid (memsB_len l (fun i hi => (HO.out i hi).1))
  clear hchk hc HR
  go_enter Tryz.func102, Tryz.ntmps102
  go_wp2_with fail
  refine HC.out.mono ?_
  rintro e w1 ⟨rfl, q, rfl⟩
  unfold setI
  go_wp2_with fail
  refine (rNumber_any l.length (by omega) _).mono ?_
  rintro e w2 ⟨rfl, hb2⟩
  have hb3 : Below w.heap.size w w2 := (below_drewN (Below.refl _ _) _).trans (hb2.mono (by simp))
  go_wp2_with fail
  go_loopw [4, 5] (fun s4 s5 wr => ∃ i : Nat, i ≤ l.length ∧ s5 = .int .i64 i ∧ s4 = .string ⟨List.toArray (num l.length ++ memsB (l.take i))⟩ ∧ Below w.heap.size w wr) (fun _ s5 _ => l.length - (intOf s5).toNat)
  case atStart => exact ⟨0, by omega, rfl, by simp [memsB], hb3⟩
  case round =>
   obtain ⟨i, hi, rfl, rfl, hb⟩ := hrel
   obtain ⟨wq, h⟩ := Below.nm hb
   subst h
   by_cases hlt : i < l.length
   ·obtain ⟨g, off, rfl, hg, c1, c2⟩ := (HV.out.keep hb).at i hlt
    have hlt' : (i : Int) < (l.length : Int) := by omega
    obtain ⟨o1, o2, o3⟩ := HO.out i hlt
    have hB := HB.out i (by omega)
    have hnx : num l.length ++ memsB (l.take (i + 1)) = num l.length ++ memsB (l.take i) ++ (text (l.getD i ([], 0)).1 ++ num (l.getD i ([], 0)).2.toNat) := by
     rw [take_getD l i hlt, memsB_app, List.append_assoc]
    have hn9 := num_len l.length
    have hs9 : (num l.length ++ memsB (l.take i)).length ≤ 200 := by rw [List.length_append]; omega
    generalize hx : l.getD i ([], 0) = x at *
    obtain ⟨n, p⟩ := x
    simp only at c1 c2 hnx o1 o2 o3
    obtain ⟨m, rfl⟩ : ∃ m : Nat, p = m := ⟨p.toNat, by omega⟩
    rw [Int.toNat_natCast] at hnx
    generalize num l.length ++ memsB (l.take i) = s at *
    have hm9 := num_len m
    have ht9 : (text n).length ≤ 15 := by have := num_len n.length; simp only [text, List.length_append]; omega
    have hcat : ¬ 9223372036854775807 < s.length + (text n).length := by omega
    have hcat2 : ¬ 9223372036854775807 < s.length + (text n).length + (num m).length := by omega
    clear hx hB HB
    go_wp2_with fail
    refine wpH_start (by kernel_rfl) (fun hS => ?_)
    (refine hP 0 ?_ ⟨some 18, .move (.tmp 4), 9, "", #[], none⟩ hS ?_ ?_; rotate_left; focus (intro w; go_simp; try with_reducible rfl))
    try simp only [pna, pnb, pnc, pnd, pne]
    (refine hP 1 ?_ ⟨some 19, .move (.tmp 0), 25, "", #[], none⟩ hS ?_ ?_; rotate_left; focus (intro w; go_simp; try with_reducible rfl))
    try simp only [pna, pnb, pnc, pnd, pne]
    (refine hP 2 ?_ ⟨some 20, .move (.tmp 5), 3, "", #[], none⟩ hS ?_ ?_; rotate_left; focus (intro w; go_simp; try with_reducible rfl))
    try simp only [pna, pnb, pnc, pnd, pne]
    (refine hP 3 ?_ ⟨some 21, .indexAddr 25 (.tmp 19) (.tmp 20), 0, "", #[], none⟩ hS ?_ ?_; rotate_left; focus (intro w; go_simp; try with_reducible rfl))
    try simp only [pna, pnb, pnc, pnd, pne]
    (refine hP 4 ?_ ⟨some 22, .fieldAddr 130 (.tmp 21) 0, 0, "", #[], none⟩ hS ?_ ?_; rotate_left; focus (intro w; go_simp; try with_reducible rfl))
    try simp only [pna, pnb, pnc, pnd, pne]
    refine wpH_load 5 (.string ⟨List.toArray n⟩) (oi := { dst := some 23, op := Op.load 9 (Operand.tmp 22), type := 9, pos := "ref.go:119", after := #[{ on := 4, ground := Ground.data }], guard := none }) rfl (by kernel_rfl) (by kernel_rfl) (by kernel_rfl) (by rfl) hS (fun _ _ _ h => h) (fun w hb => (by have c := (hb.cell (p := ⟨g, off + i * 2, none⟩) hg).trans c1; go_simp; try rfl)) ?_
    try simp only [pna, pnb, pnc, pnd, pne]
    (refine hP 8 ?_ ⟨some 26, .move (.tmp 0), 25, "", #[], none⟩ hS ?_ ?_; rotate_left; focus (intro w; go_simp; try with_reducible rfl))
    try simp only [pna, pnb, pnc, pnd, pne]
    (refine hP 9 ?_ ⟨some 27, .move (.tmp 5), 3, "", #[], none⟩ hS ?_ ?_; rotate_left; focus (intro w; go_simp; try with_reducible rfl))
    try simp only [pna, pnb, pnc, pnd, pne]
    (refine hP 10 ?_ ⟨some 28, .indexAddr 25 (.tmp 26) (.tmp 27), 0, "", #[], none⟩ hS ?_ ?_; rotate_left; focus (intro w; go_simp; try with_reducible rfl))
    try simp only [pna, pnb, pnc, pnd, pne]
    (refine hP 11 ?_ ⟨some 29, .fieldAddr 130 (.tmp 28) 1, 0, "", #[], none⟩ hS ?_ ?_; rotate_left; focus (intro w; go_simp; try with_reducible rfl))
    try simp only [pna, pnb, pnc, pnd, pne]
    refine wpH_load 12 (.int .i64 m) (oi := { dst := some 30, op := Op.load 3 (Operand.tmp 29), type := 3, pos := "ref.go:119", after := #[{ on := 11, ground := Ground.data }], guard := none }) rfl (by kernel_rfl) (by kernel_rfl) (by kernel_rfl) (by rfl) hS (fun _ _ _ h => h) (fun w hb => (by have c := (hb.cell (p := ⟨g, off + i * 2 + 1, none⟩) hg).trans c2; go_simp; try rfl)) ?_
    try simp only [pna, pnb, pnc, pnd, pne]
    refine wpH_call 6 (oi := { dst := some 24, op := Op.call { callee := Callee.value (Operand.func 103), args := #[Operand.tmp 23], argTypes := #[9] }, type := 9, pos := "ref.go:119", after := #[{ on := 5, ground := Ground.data }], guard := none }) rfl (by kernel_rfl) (by rfl) (rText_any n (by omega) _) ?_ ?_
    ·(go_simp; try rfl)
    rintro e w' ⟨rfl, hbx⟩
    refine ⟨_, rfl, hS.trans (hbx.mono hS.size), ?_⟩
    replace hS := hS.trans (hbx.mono hS.size)
    try simp only [pna, pnb, pnc, pnd, pne]
    (refine hP 7 ?_ ⟨some 25, .binOp .add 9 (.tmp 18) (.tmp 24) 9, 9, "", #[], none⟩ hS ?_ ?_; rotate_left; focus (intro w; go_simp; try with_reducible rfl))
    try simp only [pna, pnb, pnc, pnd, pne]
    refine wpH_call 13 (oi := { dst := some 31, op := Op.call { callee := Callee.value (Operand.func 88), args := #[Operand.tmp 30], argTypes := #[3] }, type := 9, pos := "ref.go:119", after := #[{ on := 12, ground := Ground.data }, { on := 6, ground := Ground.chain }], guard := none }) rfl (by kernel_rfl) (by rfl) (rNumber_any m (by omega) _) ?_ ?_
    ·(go_simp; try rfl)
    rintro e w' ⟨rfl, hbx⟩
    refine ⟨_, rfl, hS.trans (hbx.mono hS.size), ?_⟩
    replace hS := hS.trans (hbx.mono hS.size)
    try simp only [pna, pnb, pnc, pnd, pne]
    (refine hP 14 ?_ ⟨some 32, .binOp .add 9 (.tmp 25) (.tmp 31) 9, 9, "", #[], none⟩ hS ?_ ?_; rotate_left; focus (intro w; go_simp; try with_reducible rfl))
    try simp only [pna, pnb, pnc, pnd, pne]
    (refine hP 15 ?_ ⟨some 4, .assign (.tmp 32), 9, "", #[], none⟩ hS ?_ ?_; rotate_left; focus (intro w; go_simp; try with_reducible rfl))
    try simp only [pna, pnb, pnc, pnd, pne]
    refine wpAnyH_done (by kernel_rfl) ?_ _
    go_wp2_with fail
    exact ⟨⟨i + 1, by omega, by go_num, by rw [hnx], hb.trans (hS.mono hb.size)⟩, by simp [intOf]; omega⟩
   ·obtain rfl : i = l.length := by omega
    go_wp2_with fail
    all_goals (go_ret2; refine ⟨?_, hb⟩; rw [← HR2.out]; simp [encM])
theorem rmdigest_any (v : Value) (l : List (Bs × Int)) (w : World) (hv : MS w v l) :
  Calls Tryz.prog 101 #[v] w fun e w' => e = .returned (.string ⟨List.toArray (dgM l)⟩) ∧ Below w.heap.size w w' := by
 generalize hd : dgM l = d
 have HD := Lib.hid hd
 clear hd
 obtain ⟨a, c, rfl⟩ := hv.form
 have hm := hv.small
 have hen := rmencode_any _ l w hv
 cases hc : chkM l
 ·rw [show encMR l = ([], 50) from by simp [encMR, hc]] at hen
  have HZ : Hid ([] = d) := Lib.hid (by rw [← HD.out]; simp [dgM, hc])
  have HE := Lib.hid hen
  clear hen hv HD hc
  go_enter Tryz.func101, Tryz.ntmps101
  go_wp2_with fail
  refine HE.out.mono ?_
  rintro e w1 ⟨rfl, hb⟩
  go_wp2_with fail
  all_goals (go_ret; refine ⟨?_, hb⟩; rw [← HZ.out]; rfl)
 ·rw [show encMR l = (encM l, 0) from by simp [encMR, hc]] at hen
  have HZ : Hid (tagP 4 (encM l) = d) := Lib.hid (by rw [← HD.out]; simp [dgM, hc])
  have hl := encM_len l hc
  have HE := Lib.hid hen
  clear hen hv HD hc
  generalize encM l = t at *
  go_enter Tryz.func101, Tryz.ntmps101
  go_wp2_with fail
  refine HE.out.mono ?_
  rintro e w1 ⟨rfl, hb⟩
  go_wp2_with fail
  refine (tagged_any 4 (by omega) t (by omega) _).mono ?_
  rintro e w2 ⟨rfl, hb2⟩
  go_wp2_with fail
  all_goals (go_ret; refine ⟨?_, hb.trans (hb2.mono hb.size)⟩; rw [← HZ.out]; rfl)
end Go.Proofs.YthgjdaomcpinaaaGreatDoor
