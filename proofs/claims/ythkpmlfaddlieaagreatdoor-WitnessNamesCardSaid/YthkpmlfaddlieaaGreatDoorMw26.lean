/- SignW, ExW, Fits. -/
import Derived.Test.YthkpmlfaddlieaaGreatDoorMw25
set_option linter.unnecessarySimpa false
set_option linter.unusedSimpArgs false
set_option linter.unusedVariables false
set_option maxRecDepth 100000
set_option maxHeartbeats 32000000
namespace Go.Proofs.YthkpmlfaddlieaaGreatDoor
open Go.RowKit Go.Shelf Pl
theorem run_conv_typ (w : World) (s : Bs) (hs : s.length ≤ maxLen) :
  ∃ cap w', (convert 9 130 (.string ⟨List.toArray s⟩)).run Tryz.prog w = .ok (.slice (some ⟨w.heap.size, 0, none⟩) s.length cap) w' ∧ (∀ i, i < s.length → w'.cell? ⟨w.heap.size, i, none⟩ = some (.int .u8 ((s.getD i 0).toNat : Int))) ∧ (∀ p, w.heap.size ≠ p → Foreign w' p w.heap.size) ∧ Below w.heap.size w w' := by
 have hr := Lib.run_convert_string_bytes (P := Tryz.prog) w 9 130 5 ⟨s.toArray⟩ Tryz.underlying9 Tryz.underlying130 Tryz.underlying5
 have hz := bs_size s
 rw [hz] at hr
 refine ⟨_, _, hr, fun i hi => ?_, fun p hp => ⟨hp, _, _, _, Lib.bytesWorld_at_new w 5 ⟨s.toArray⟩, by decide⟩, ⟨rfl, rfl, rfl, by rw [Lib.bytesWorld_size]; omega, fun k hk => Lib.bytesWorld_at_old w _ _ k (by omega)⟩⟩
 have h := Lib.bytesWorld_cell w 5 ⟨s.toArray⟩ i (by rw [hz]; exact hi)
 simpa using h
section
variable {ops : Array Oper} {o : Oper} {rest : List Oper} {a : Act} {w : World} {Q : Exit → Act → World → Prop}
theorem wpList_convT (hgd : o.guard = none) (x : Operand) (ho : o.op = .convert 9 130 x) (s : Bs) (hx : a.eval x = .string ⟨List.toArray s⟩) (hs : s.length ≤ maxLen)
  (h : ∀ cap w', (∀ i, i < s.length → w'.cell? ⟨w.heap.size, i, none⟩ = some (.int .u8 ((s.getD i 0).toNat : Int))) → (∀ p, w.heap.size ≠ p → Foreign w' p w.heap.size) → Below w.heap.size w w' → wpList Tryz.prog ops Q rest (a.put o.dst (.slice (some ⟨w.heap.size, 0, none⟩) s.length cap)) w') : wpList Tryz.prog ops Q (o :: rest) a w := by
 refine wpList_plain hgd fun K hK => ?_
 obtain ⟨cap, w', hr, h2, h3, h4⟩ := run_conv_typ w s hs
 unfold Oper.wp execOp
 simp only [ho, hx, Sem.run_bind, Sem.run_pure, Result.andThen_ok, hr]
 exact hK _ _ (h cap w' h2 h3 h4)
end
section
variable {ops : Array Oper} {o : Oper} {rest : List Oper} {a : Act} {w : World} {Q : Exit → Act → World → Prop}
theorem wpList_appSW (hgd : o.guard = none) (s x : Operand)
  (ho : o.op = .call { callee := .builtin .append, args := #[s, x], argTypes := #[24, 24] })
  (base : Nat) (v : Value) (l : List (List UInt8)) (hs : a.eval s = v) (hown : SRow w base v l)
  (g off m c : Nat) (news : List (List UInt8)) (hx : a.eval x = .slice (some ⟨g, off, none⟩) m c) (hm : news.length = m) (hsrc : SSrc w g off news)
  (hlen : l.length + m ≤ 8796093022208) (hbase : base ≤ w.heap.size)
  (h : ∀ v' w', SRow w' base v' (l ++ news) → w.grownBy w' v.ownBlock → wpList Tryz.prog ops Q rest (a.put o.dst v') w') : wpList Tryz.prog ops Q (o :: rest) a w := by
 refine wpList_plain hgd fun _ hK => ?_
 obtain ⟨i0, hi, hz0, hz1, hz2⟩ := info_parts infoStr
 refine wp_append_own w s x 24 ho base 9 i0 (.string ⟨#[]⟩) 1 16 Tryz.underlying24 hi hz0 hz1 hz2 rfl (by decide) v l.length (sv l) hs hown ⟨g, off, none⟩ m c (sv news) hx (by rw [sv_len, hm]; omega) (ssrc_news hsrc) (sone news)
  (by unfold maxLen; omega) (by omega) hbase (fun v' w' h2 h3 _ => hK _ _ (h v' w' ?_ h3))
 unfold SRow
 rw [List.length_append, hm, show sv (l ++ news) = sv l ++ sv news from by simp [sv]]
 exact h2
end
theorem Tab.modF {w w' : World} {base p : Nat} {L : List Sg} {l : List Nat} (h : Tab w base p L) (hm : Mod l w w') (hl : ∀ k ∈ l, p < k ∧ Foreign w p k) : Tab w' base p L := by
 obtain ⟨b, s, h1, h2, h3, h4, h5, h6⟩ := h
 exact ⟨b, s, h1, h2, h3.mod hm (fun hx => Nat.lt_irrefl _ (hl _ hx).1), ownsMap_mod h4 hm (fun hx => by have := (hl _ hx).1; omega), h5.kept (fun k hk => hm.block k (h5.own k hk).2 (fun hx => Foreign.notRow h5 hk (hl k hx).2)), h6⟩
theorem SRow.foreign {w : World} {B p : Nat} {v : Value} {l : List Bs} (hr : SRow w B v l) (hp : p < B) : ∀ k ∈ v.ownBlock.toList, p < k ∧ Foreign w p k := by
 intro k hk
 rw [Option.mem_toList] at hk
 have hb := hr.own k hk
 refine ⟨by omega, ?_⟩
 rcases hr.2 with ⟨e, _⟩ | ⟨g, cap, cur, e, _, hg, _⟩
 ·rw [e] at hk; cases hk
 ·rw [e] at hk; cases hk; exact ⟨by omega, cur, _, _, hg, by decide⟩
theorem Tab.modS {w w' : World} {base p B : Nat} {L : List Sg} {v : Value} {l : List Bs} (h : Tab w base p L) (hr : SRow w B v l) (hm : Mod v.ownBlock.toList w w') (hp : p < B) : Tab w' base p L := h.modF hm (hr.foreign hp)
theorem OrF.modA {p : Nat} {a w w' : World} {l : List Nat} (h : OrF p a w) (hm : Mod l w w') (hl : ∀ k ∈ l, a.heap.size ≤ k) : OrF p a w' :=
 ⟨hm.os.trans h.os, hm.tape.trans h.tape, hm.output.trans h.output, Nat.le_trans h.size hm.size, fun k hk => (hm.block k (Nat.lt_of_lt_of_le hk.lt h.size) (fun hx => Nat.lt_irrefl _ (Nat.lt_of_lt_of_le hk.lt (hl k hx)))).trans (h.block k hk)⟩
theorem cell_of_block {w w' : World} {b : Nat} (h : w'.heap[b]? = w.heap[b]?) (o : Nat) : w'.cell? ⟨b, o, none⟩ = w.cell? ⟨b, o, none⟩ := by simp [World.cell?, h]
def signs (m : Bs) : List Sg → Bs → List Sg
 | L, [] => L
 | L, c :: r => signs m (signL L [c] m true).1 r
theorem signs_app (m : Bs) : ∀ (l : Bs) (L : List Sg) (c : UInt8), signs m L (l ++ [c]) = (signL (signs m L l) [c] m true).1
 | [], L, c => rfl
 | x :: r, L, c => signs_app m r _ c
def ones1 (l : Bs) : List Bs := l.map fun c => [c]
theorem take_getD (l : Bs) (k : Nat) (h : k < l.length) : l.take (k + 1) = l.take k ++ [l.getD k 0] := by
 rw [List.take_add_one, List.getD_eq_getElem?_getD, List.getElem?_eq_getElem h]; rfl
theorem signw_any (base p : Nat) (L : List Sg) (who : Bs) (h : Hd) (ka : Option Addr) (kc : Nat) (w : World) (hk : SS w (.slice ka h.skips.length kc) h.skips) (hKT : KT w) (hT : Tab w base p L) (hw : who.length ≤ 100) :
  Calls Tryz.prog 27 #[.pointer (some ⟨p, 0, none⟩), .agg (hcs h (.slice ka h.skips.length kc)).toArray, .string ⟨List.toArray who⟩] w fun e w' => ∃ sv, e = .returned (.agg #[.string ⟨List.toArray (dgH h)⟩, sv]) ∧ SRow w' w.heap.size sv (ones1 who) ∧
   Tab w' base p (signs (markP 6 (dgH h)).1 L who) ∧ Below base w w' ∧ OrF p w w' := by
 have hb0 : Below w.heap.size w (w.alloc (.cells (hcs h (.slice ka h.skips.length kc)).toArray 48)) := Below.allocS (Below.refl _ _) _
 have B0 : Blk (w.alloc (.cells (hcs h (.slice ka h.skips.length kc)).toArray 48)) w.heap.size (hcs h (.slice ka h.skips.length kc)).toArray := Blk.new _ _ _
 have hb1 := Below.allocS hb0 (.cells #[.string ⟨List.toArray []⟩, .slice none 0 0] 37)
 have B1 := B0.alloc (.cells #[.string ⟨List.toArray []⟩, .slice none 0 0] 37)
 have B6 : Blk ((w.alloc (.cells (hcs h (.slice ka h.skips.length kc)).toArray 48)).alloc (.cells #[.string ⟨List.toArray []⟩, .slice none 0 0] 37)) (w.heap.size + 1) #[.string ⟨List.toArray []⟩, .slice none 0 0] := Blk.new' (by simp)
 have T6 : Typ ((w.alloc (.cells (hcs h (.slice ka h.skips.length kc)).toArray 48)).alloc (.cells #[.string ⟨List.toArray []⟩, .slice none 0 0] 37)) (w.heap.size + 1) 37 := Typ.new' (by simp)
 have q1 := hd_digest h.height h.epoch h.view h.last h.parent h.state h.receipts h.txs h.members h.next h.skips ka kc _ (hk.keep hb1) (hKT.keep hb1)
 have hdl : (dgH h).length ≤ 32 := by
  cases hf : fineH h
  ·rw [dgH_no hf]; simp
  ·rw [dgH_len hf]; exact Nat.le_refl _
 have hlt := hT.lt
 go_enter Tryz.func27, Tryz.ntmps27
 go_wp2_with (first
  | (refine wpList_rowR row_head rfl (.tmp 4) rfl rfl (vs := hcs h (.slice ka h.skips.length kc)) rfl B1.range ?_)
  | fail)
 refine q1.mono ?_
 rintro e w1 ⟨rfl, hb⟩
 have hb2 := hb1.trans (hb.mono hb1.size)
 have hT1 := hT.keep hb2
 have hK1 := hKT.keep hb2
 have hsz := hb2.size
 have hgt : w.heap.size + 2 ≤ w1.heap.size := by have := hb.size; simpa using this
 have B6 := B6.keep hb
 have T6 := T6.keep hb
 clear q1 hb hb1 hb0 B0 B1 hk
 generalize hdg : dgH h = d at *
 have HDG := Lib.hid hdg
 clear hdg
 have B7 : Blk (w1.alloc (.cells #[.string ⟨List.toArray d⟩, .slice none 0 0] 37)) w1.heap.size #[.string ⟨List.toArray d⟩, .slice none 0 0] := Blk.new _ _ _
 have T7 : Typ (w1.alloc (.cells #[.string ⟨List.toArray d⟩, .slice none 0 0] 37)) w1.heap.size 37 := Typ.new _ _ _
 have hb3 := Below.allocS hb2 (.cells #[.string ⟨List.toArray d⟩, .slice none 0 0] 37)
 have hx3 : Below w1.heap.size w1 (w1.alloc (.cells #[.string ⟨List.toArray d⟩, .slice none 0 0] 37)) := Below.allocS (Below.refl _ _) _
 have q2 := cmark_any 6 d (by omega) _ (hK1.keep hx3)
 have hT3 := hT1.keep hx3
 have B6 := B6.keep hx3
 have T6 := T6.keep hx3
 have hml := markP_len 6 d
 clear hT1 hK1 hx3 hKT hdl
 go_wp2_with fail
 refine q2.mono ?_
 rintro e w4 ⟨rfl, hb⟩
 have B7 := B7.keep hb
 have T7 := T7.keep hb
 have hT4 := hT3.keep hb
 have B6 := B6.keep hb
 have T6 := T6.keep hb
 have hb4 := hb3.trans (hb.mono hb3.size)
 have hsz4 : w1.heap.size + 1 ≤ w4.heap.size := by have := hb.size; simpa using this
 clear q2 hb hb3 hb2 hT3
 have HML := Lib.hid hml
 clear hml
 generalize hmk : (markP 6 d).1 = mk at *
 have HMK := Lib.hid hmk
 clear hmk
 generalize (markP 6 d).2 = mc at *
 go_wp2_with (first
  | (refine wpList_convT rfl (.tmp 21) rfl who rfl (by unfold maxLen; omega) ?_; intro cap w5 hc5 hF5 hb5)
  | fail)
 have B7 := B7.keep hb5
 have T7 := T7.keep hb5
 have hT5 := hT4.keep hb5
 have B6 := B6.keep hb5
 have T6 := T6.keep hb5
 have hb05 := hb4.trans (hb5.mono hb4.size)
 have hp5 : w4.heap.size ≠ p := by omega
 have HF := Lib.hid (hF5 p hp5)
 have HC := Lib.hid hc5
 have h45 : w4.heap.size < w5.heap.size := (hF5 p hp5).lt
 have hp7 : p < w1.heap.size := by omega
 have hbase := hlt.2
 have HF5 := HF.out.lt
 clear hc5 hF5 hb5 hb4 hT4
 go_wp2_with fail
 go_loopw [24] (fun s24 wr => ∃ (k : Nat) (sv : Value), s24 = .int .i64 ((k : Int)) ∧ k ≤ who.length ∧ Hid (Blk wr w1.heap.size #[.string ⟨List.toArray d⟩, sv] ∧ Typ wr w1.heap.size 37 ∧ Blk wr (w.heap.size + 1) #[.string ⟨List.toArray []⟩, .slice none 0 0] ∧ Typ wr (w.heap.size + 1) 37) ∧ Hid (SRow wr w5.heap.size sv (ones1 (who.take k))) ∧ Hid (Tab wr base p (signs mk L (who.take k))) ∧ Hid (wr.heap[w4.heap.size]? = w5.heap[w4.heap.size]?) ∧ Hid (Below base w wr) ∧ Hid (OrF p w wr) ∧ w5.heap.size ≤ wr.heap.size) (fun s24 _ => who.length - (intOf s24).toNat)
 case atStart => exact ⟨0, .slice none 0 0, rfl, by omega, Lib.hid ⟨B7, T7, B6, T6⟩, Lib.hid (SRow.nil _ _), Lib.hid hT5, Lib.hid rfl, Lib.hid (hb05.mono (by omega)), Lib.hid (OrF.below hb05), Nat.le_refl _⟩
 case round =>
  clear B7 T7 hT5 hb05 B6 T6
  obtain ⟨k, sv, rfl, hk, HB7, HSv, HTb, HBy, HBe, HO, hsz5⟩ := hrel
  obtain ⟨wr, hwr⟩ := Below.name HBe.out
  subst hwr
  by_cases hkl : k < who.length
  ·have k1 : decide ((k : Int) < (who.length : Int)) = true := by simp; omega
   have k2 : (k : Int) < (who.length : Int) := by omega
   have c1 : wr.cell? ⟨w4.heap.size, k, none⟩ = some (.int .u8 ((who.getD k 0).toNat : Int)) := (cell_of_block HBy.out k).trans (HC.out k hkl)
   have HTK := Lib.hid (take_getD who k hkl)
   generalize who.getD k 0 = c at *
   have hcb : UInt8.ofNat ((c.toNat : Int)).toNat = c := by simp
   have ha : Below wr.heap.size wr (wr.alloc (.cells #[.int .u8 (c.toNat : Int)] 5)) := Below.allocS (Below.refl _ _) _
   have hbr : base ≤ wr.heap.size := by omega
   have qs := osignf_any base p (signs mk L (who.take k)) [c] mk true (by simp) (by have := HML.out; omega) _ (HTb.out.keep ha)
   go_wp2_with fail
   refine qs.mono ?_
   rintro e w6 ⟨rfl, hT6, hb6, ho6⟩
   have hTK : signs mk L (who.take (k + 1)) = (signL (signs mk L (who.take k)) [c] mk true).1 := by rw [HTK.out]; exact signs_app mk _ L c
   have hNK : ones1 (who.take (k + 1)) = ones1 (who.take k) ++ [[c]] := by rw [HTK.out]; simp [ones1]
   rw [← hTK] at hT6
   have HT6 := Lib.hid hT6
   have HNK := Lib.hid hNK
   have HBe6 := Lib.hid (HBe.out.trans ((ha.mono hbr).trans hb6))
   have ho16 : OrF p wr w6 := (OrF.below ha).trans ho6
   have HO6 := Lib.hid (HO.out.trans ho16)
   have hsz6 := ho16.size
   have fB : ∀ j, Foreign wr p j → w6.heap[j]? = wr.heap[j]? := ho16.block
   have f4 : Foreign wr p w4.heap.size := HF.out.keep HBy.out
   have HBy6 : Hid (w6.heap[w4.heap.size]? = w5.heap[w4.heap.size]?) := Lib.hid ((fB _ f4).trans HBy.out)
   obtain ⟨B7, T7, B6, T6⟩ := HB7.out
   have f7 := T7.foreign (p := p) (by decide) (by omega)
   have f6 := T6.foreign (p := p) (by decide) (by omega)
   have B7 := B7.orf f7 ho16
   have T7 := T7.at (fB _ f7)
   have HB6 : Hid (Blk w6 (w.heap.size + 1) #[.string ⟨List.toArray []⟩, .slice none 0 0] ∧ Typ w6 (w.heap.size + 1) 37) := Lib.hid ⟨B6.orf f6 ho16, T6.at (fB _ f6)⟩
   have HS6 := HSv.out.orf ho16 (by omega)
   clear qs hT6 hb6 ho6 ho16 fB f4 f7 f6 B6 T6 ha hTK hNK HSv HBy HTb HBe HO HB7 c1 k1 k2
   obtain ⟨ua, uc, hsv⟩ := HS6.form
   subst hsv
   have hl7 := B7.lt
   have hsr : SSrc ((w6.alloc (.cells #[.int .u8 (c.toNat : Int)] 5)).alloc (.cells #[.string ⟨List.toArray ([c])⟩] 9)) (w6.heap.size + 1) 0 [[c]] := by
    have h := ssrc1 (w6.alloc (.cells #[.int .u8 (c.toNat : Int)] 5)) [c] 9
    simpa using h
   have c71 := B7.cell 1
   have f71 := B7.froz 1
   simp only [List.getElem?_toArray, List.getElem?_cons_zero, List.getElem?_cons_succ] at c71
   go_wp2_with (first
    | (at_builtin; refine wpList_appSW rfl (.tmp 35) (.tmp 39) rfl w5.heap.size _ (ones1 (who.take k)) rfl ((HS6.alloc _).alloc _) (w6.heap.size + 1) 0 1 1 [[c]] rfl rfl hsr (by simp [ones1]; omega) (by simp; omega) ?_; intro v8 w8 hS8 hg8; obtain ⟨va8, vc8, hv8⟩ := hS8.form; subst hv8; have m8 := grown_mod hg8; have o8 : ∀ x ∈ (Value.slice ua (ones1 (who.take k)).length uc).ownBlock.toList, w5.heap.size ≤ x := (fun x hx => HS6.own x (by simpa using hx)); have B7 := ((B7.alloc _).alloc _).mod m8 (fun hx => by have := o8 _ hx; omega); have T7 := ((T7.keep (Below.allocS (Below.refl _ _) _)).keep (Below.allocS (Below.refl _ _) _)).mod m8 (fun hx => by have := o8 _ hx; omega); have c71 := B7.cell 1; have f71 := B7.froz 1; simp only [List.getElem?_toArray, List.getElem?_cons_zero, List.getElem?_cons_succ] at c71)
    | fail)
   have hx6 : Below w6.heap.size w6 ((w6.alloc (.cells #[.int .u8 (c.toNat : Int)] 5)).alloc (.cells #[.string ⟨List.toArray ([c])⟩] 9)) := Below.allocS (Below.allocS (Below.refl _ _) _) _
   have hsx := hx6.size
   have hT8 := ((HT6.out.keep hx6).modS (HS6.keep hx6) m8 (by omega))
   have hb8 := Below.mod (HBe6.out.trans (hx6.mono (by omega))) m8 (by omega) (fun x hx => by have := o8 x hx; omega)
   have ho8 := (HO6.out.trans (OrF.below hx6)).modA m8 (fun x hx => by have := o8 x hx; omega)
   have hsz8 := m8.size
   have hy8 : w8.heap[w4.heap.size]? = w5.heap[w4.heap.size]? := (m8.block _ (by omega) (fun hx => by have := o8 _ hx; omega)).trans ((hx6.block _ (by omega)).trans HBy6.out)
   have B6 := (HB6.out.1.keep hx6).mod m8 (fun hx => by have := o8 _ hx; omega)
   have T6 := (HB6.out.2.keep hx6).mod m8 (fun hx => by have := o8 _ hx; omega)
   have HX8 := Lib.hid (And.intro hT8 (And.intro hb8 (And.intro ho8 (And.intro hy8 (And.intro B6 T6)))))
   have hS8' := Lib.hid hS8
   clear hT8 hb8 ho8 hy8 B6 T6 hS8 hx6 hg8 hsr HS6 HT6 HBe6 HO6 HBy6 HB6 hbr hcb
   go_wp2_with fail
   have hlen : (ones1 (who.take k) ++ [[c]]).length = (ones1 (who.take k)).length + 1 := by simp
   have hS9 := hS8'.out
   rw [hlen] at hS9
   obtain ⟨hT8, hb8, ho8, hy8, B6, T6⟩ := HX8.out
   have f7 := T7.foreign (p := p) (by decide) (by omega)
   have ms : Mod [w1.heap.size] w8 (w8.setCell ⟨w1.heap.size, 1, none⟩ (.slice va8 ((ones1 (who.take k)).length + 1) vc8)) := (Mod.refl _ _).setCell (.inl (by simp)) _
   refine ⟨⟨k + 1, .slice va8 ((ones1 (who.take k)).length + 1) vc8, by go_num, by omega, Lib.hid ⟨by simpa using B7.set 1 (.slice va8 ((ones1 (who.take k)).length + 1) vc8), T7.set _ _, B6.mod ms (by simp; omega), T6.mod ms (by simp; omega)⟩, Lib.hid ?_, Lib.hid ?_, Lib.hid ?_, Lib.hid ?_, Lib.hid ?_, ?_⟩, by simp [intOf]; omega⟩
   ·rw [HNK.out]; exact hS9.mod ms (by omega)
   ·exact hT8.modF ms (fun x hx => by rw [List.mem_singleton] at hx; subst hx; exact ⟨by omega, f7⟩)
   ·exact (ms.block _ (by omega) (by simp; omega)).trans hy8
   ·exact Below.mod hb8 ms (by omega) (by simp; omega)
   ·exact ho8.modA ms (by simp; omega)
   ·have := ms.size; omega
  ·obtain rfl : k = who.length := by omega
   have k1 : decide ((who.length : Int) < (who.length : Int)) = false := by simp
   have k2 : decide (who.length < who.length) = false := by simp
   rw [List.take_length] at HSv HTb
   obtain ⟨B7, T7, B6, T6⟩ := HB7.out
   obtain ⟨ua, uc, hsv⟩ := HSv.out.form
   subst hsv
   obtain ⟨b1, b2, b3⟩ := id B7
   obtain ⟨d1, d2, d3⟩ := id B6
   clear hk hkl
   go_wp2_with fail
   have B9 : Blk ((wr.setCell ⟨w.heap.size + 1, 0, none⟩ (.string ⟨List.toArray d⟩)).setCell ⟨w.heap.size + 1, 1, none⟩ (.slice ua (ones1 who).length uc)) (w.heap.size + 1) [.string ⟨List.toArray d⟩, .slice ua (ones1 who).length uc].toArray := by
    have := (B6.set 0 (.string ⟨List.toArray d⟩)).set 1 (.slice ua (ones1 who).length uc)
    simpa using this
   have ms : Mod [w.heap.size + 1] wr ((wr.setCell ⟨w.heap.size + 1, 0, none⟩ (.string ⟨List.toArray d⟩)).setCell ⟨w.heap.size + 1, 1, none⟩ (.slice ua (ones1 who).length uc)) := ((Mod.refl _ _).setCell (.inl (by simp)) _).setCell (.inl (by simp)) _
   have f6 := T6.foreign (p := p) (by decide) (by omega)
   refine bodyPost_ret (results_cell1 rfl _ _ _ _ rfl (row_loadVar row_cert _ rfl B9)) rfl ?_
   refine ⟨_, by rw [HDG.out], (HSv.out.mod ms (by omega)).low (by omega), ?_, Below.mod HBe.out ms (by omega) (by simp; omega), HO.out.modA ms (by simp)⟩
   rw [HDG.out, HMK.out]
   exact HTb.out.modF ms (fun x hx => by rw [List.mem_singleton] at hx; subst hx; exact ⟨by omega, f6⟩)
end Go.Proofs.YthkpmlfaddlieaaGreatDoor
namespace Go.Proofs.YthkpmlfaddlieaaGreatDoor
open Go.RowKit Pl
theorem signs_grows (m : Bs) : ∀ (who : Bs) (L : List Sg) (n x : Bs), isIn L n x = true → isIn (signs m L who) n x = true
 | [], L, n, x, h => h
 | c :: r, L, n, x, h => signs_grows m r _ n x (signL_grows L [c] m true n x h)
theorem signL_le (L : List Sg) (who mark : Bs) (h : Bool) : (signL L who mark h).1.length ≤ L.length + 1 := by
 unfold signL
 split
 ·simp
 ·split
  ·simp
  ·split
   ·simp
   ·split <;> simp
theorem signL_now (L : List Sg) (who mark : Bs) (h : Bool) (hw : who ≠ []) (h6 : who.length ≤ 6) (hm : mark.length = 32) (hl : L.length < 1024) : isIn (signL L who mark h).1 who mark = true := by
 unfold signL
 rw [if_neg (by rintro (e | e); exact hw e; omega), if_neg (by omega)]
 split
 ·rename_i hin
  rw [isIn_mem] at hin ⊢
  rw [keys_set L who mark _ (by rw [isIn_mem]; exact hin)]
  exact hin
 ·rw [if_neg (by omega), isIn_mem]
  simp [keyOfS]
theorem signs_has (m : Bs) (hm : m.length = 32) : ∀ (who : Bs) (L : List Sg), L.length + who.length ≤ 1024 → ∀ c ∈ who, isIn (signs m L who) [c] m = true
 | [], L, _, c, hc => by cases hc
 | x :: r, L, hl, c, hc => by
  have hl1 : L.length + r.length + 1 ≤ 1024 := by simp at hl; omega
  have hle := signL_le L [x] m true
  rcases List.mem_cons.1 hc with e | e
  ·subst e
   exact signs_grows m r _ _ _ (signL_now L [c] m true (by simp) (by simp) hm (by omega))
  ·exact signs_has m hm r _ (by omega) c e
theorem markP_6 {s : Bs} (h : s.length = 32) : (markP 6 s).1 = tagP 6 s := by rw [markP_six, if_pos h]
theorem len4a : (dgH (hd4 1)).length = 32 := by rw [dgH_4a]; rfl
theorem len4b : (dgH (hd4 2)).length = 32 := by rw [dgH_4b]; rfl
def tab4 : List Sg := signs (markP 6 (dgH (hd4 2))).1 (signs (markP 6 (dgH (hd4 1))).1 [] [97, 98, 99]) [98, 99, 100]
theorem tab4_a : chkB tab4 (tagP (6 : Int).toNat (dgH (hd4 1))) [[97], [98], [99]] = true := by
 unfold chkB tab4
 have h1 : (markP 6 (dgH (hd4 1))).1 = tagP 6 (dgH (hd4 1)) := markP_6 len4a
 rw [h1, show (6 : Int).toNat = 6 from rfl]
 rw [List.all_eq_true]
 have hm := tagP_len 6 (dgH (hd4 1))
 intro n hn
 have hs := signs_has (tagP 6 (dgH (hd4 1))) hm [97, 98, 99] [] (by decide)
 simp only [List.mem_cons, List.not_mem_nil, or_false] at hn
 rcases hn with rfl | rfl | rfl
 ·exact signs_grows _ _ _ _ _ (hs 97 (by decide))
 ·exact signs_grows _ _ _ _ _ (hs 98 (by decide))
 ·exact signs_grows _ _ _ _ _ (hs 99 (by decide))
theorem signs_len (m : Bs) : ∀ (who : Bs) (L : List Sg), (signs m L who).length ≤ L.length + who.length
 | [], L => Nat.le_refl _
 | x :: r, L => by
  have h1 := signs_len m r (signL L [x] m true).1
  have h2 := signL_le L [x] m true
  simp only [signs, List.length_cons]
  omega
theorem tab4_b (l : List Bs) (hl : ∀ n ∈ l, n = [98] ∨ n = [99] ∨ n = [100]) : chkB tab4 (tagP (6 : Int).toNat (dgH (hd4 2))) l = true := by
 unfold chkB tab4
 have h1 : (markP 6 (dgH (hd4 2))).1 = tagP 6 (dgH (hd4 2)) := markP_6 len4b
 rw [h1, show (6 : Int).toNat = 6 from rfl]
 rw [List.all_eq_true]
 have hm := tagP_len 6 (dgH (hd4 2))
 have h3 := signs_len (markP 6 (dgH (hd4 1))).1 [97, 98, 99] []
 intro n hn
 have hs := signs_has (tagP 6 (dgH (hd4 2))) hm [98, 99, 100] (signs (markP 6 (dgH (hd4 1))).1 [] [97, 98, 99]) (by simp at h3 ⊢; omega)
 rcases hl n hn with rfl | rfl | rfl
 ·exact hs 98 (by decide)
 ·exact hs 99 (by decide)
 ·exact hs 100 (by decide)
theorem may4 (d : Bs) (l : List Bs) (hd : d.length = 32) (h7 : decide (l.length ≤ 7) = true) (ho : okS [] l = true) : mayC d l = true := by
 unfold mayC
 rw [hd, h7, ho]; rfl
theorem first4 : firstC 6 four4 true = 0 := by decide
theorem good4 {d : Bs} {l : List Bs} (hd : d.length = 32) (h7 : decide (l.length ≤ 7) = true) (ho : okS [] l = true) (ha : chkA four4 l = true) (hb : chkB tab4 (tagP (6 : Int).toNat d) l = true) :
  goodC 6 four4 d l tab4 = if ofM four4 l < quoM four4 then 71 else 0 := by
 rw [goodC_in (by rw [may4 d l hd h7 ho]; exact first4)]
 unfold goodIn
 rw [ha, hb]
 rfl
theorem good4a : goodC 6 four4 (dgH (hd4 1)) [[97], [98], [99]] tab4 = 0 := by
 rw [good4 len4a (by decide) (by decide) (by decide) tab4_a]; decide
theorem good4b : goodC 6 four4 (dgH (hd4 2)) [[98], [99], [100]] tab4 = 0 := by
 rw [good4 len4b (by decide) (by decide) (by decide) (tab4_b _ (by simp))]; decide
theorem few4b : goodC 6 four4 (dgH (hd4 2)) [[98], [99]] tab4 = 71 := by
 rw [good4 len4b (by decide) (by decide) (by decide) (tab4_b _ (by simp))]; decide
theorem codeW_4 (l : List Bs) : codeW four4 (hd4 1) (hd4 2) (dgH (hd4 1)) [[97], [98], [99]] (dgH (hd4 2)) l tab4 = goodC 6 four4 (dgH (hd4 2)) l tab4 := by
 unfold codeW
 rw [if_neg (by rw [show chkM four4 = true from by decide]; decide), if_neg (by rw [fine4a, fine4b]; decide)]
 rw [if_neg (fun h => h ⟨rfl, heads_differ, dgM_four.symm, dgM_four.symm⟩), if_neg (by simp), good4a, if_neg (by decide)]
theorem both4 : bothP [[97], [98], [99]] [[98], [99], [100]] = [[98], [99]] := by
 unfold bothP
 rw [show selP [[97], [98], [99]] [[98], [99], [100]] = [[98], [99]] from by decide, List.mergeSort_of_pairwise (by simp; decide)]
 decide
end Go.Proofs.YthkpmlfaddlieaaGreatDoor
namespace Go.Proofs.YthkpmlfaddlieaaGreatDoor
open Go.RowKit Go.Shelf Pl
theorem key_fields : ((Tryz.prog).fieldsOf 98).toList.map (fun f => (f.type, f.offset, f.name == "_")) = [(3, 0, false), (9, 1, false)] := by kernel_rfl
@[go_sem high] theorem eq_key (n n2 : Int) (k k2 : Bs) (d : Nat) (w : World) :
  (Op.equalIn (d + 2) 98 (.agg #[.int .i64 n, .string ⟨List.toArray k⟩]) (.agg #[.int .i64 n2, .string ⟨List.toArray k2⟩])).run Tryz.prog w = .ok (decide (n = n2) && decide (k = k2)) w := by
 rw [run_equalIn_struct w (d + 1) 98 _ _ (by kernel_rfl) (by kernel_rfl)]
 have hf := key_fields
 generalize ((Tryz.prog).fieldsOf 98).toList = l at *
 rcases l with _ | ⟨f0, _ | ⟨f1, _ | ⟨f2, l⟩⟩⟩ <;> simp at hf
 obtain ⟨⟨a1, a2, a3⟩, ⟨b1, b2, b3⟩⟩ := hf
 have q0 : ∀ (n : Int) (k : Bs), (part 3 #[.int .i64 n, .string ⟨List.toArray k⟩] 0).run Tryz.prog w = .ok (.int .i64 n) w := fun n k => run_part_plain w (by simp [Program.plainKey, Tryz.underlying3]) rfl
 have q1 : ∀ (n : Int) (k : Bs), (part 9 #[.int .i64 n, .string ⟨List.toArray k⟩] 1).run Tryz.prog w = .ok (.string ⟨List.toArray k⟩) w := fun n k => run_part_plain w (by simp [Program.plainKey, Tryz.underlying9]) rfl
 have e0 := run_equalIn_int (P := Tryz.prog) w d 3 .i64 .i64 n n2 Tryz.underlying3
 have e1 := run_equalIn_string (P := Tryz.prog) w d 9 ⟨List.toArray k⟩ ⟨List.toArray k2⟩ Tryz.underlying9
 rw [← beq_toListBytes, str_beq] at e1
 simp only [Op.eqFields, a1, a2, b1, b2, a3, b3, ne_eq, not_false_eq_true, if_true, Sem.run_bind, q0, q1, e0, e1, Result.andThen_ok]
 by_cases h0 : n = n2
 ·subst h0
  by_cases h1 : k = k2
  ·subst h1; simp [Sem.run_bind, Sem.run_ite, q0, q1, e0, e1]
  ·simp [Sem.run_bind, Sem.run_ite, q0, q1, e0, e1, h1]
 ·simp [Sem.run_bind, Sem.run_ite, q0, q1, e0, e1, h0]
def fitsW (p q : Hd) (s : Bs) : Bool := decide (p.height = q.height) && !decide (dgH p = dgH q) && decide (p.members = s) && decide (q.members = s)
theorem two_sides (w : World) (us vs : List Value) (t1 t2 : TypeId) :
  Blk ((w.alloc (.cells us.toArray t1)).alloc (.cells vs.toArray t2)) w.heap.size us.toArray ∧ Blk ((w.alloc (.cells us.toArray t1)).alloc (.cells vs.toArray t2)) (w.heap.size + 1) vs.toArray ∧
  Below w.heap.size w ((w.alloc (.cells us.toArray t1)).alloc (.cells vs.toArray t2)) :=
 ⟨(Blk.new _ _ _).alloc _, Blk.new' (by simp), Below.allocS (Below.allocS (Below.refl _ _) _) _⟩
theorem wfits_any (p q : Hd) (ka kb : Option Addr) (kc kd : Nat) (d f : Bs) (ns ms : Value) (s : Bs) (w : World) (hk : SS w (.slice ka p.skips.length kc) p.skips) (hq : SS w (.slice kb q.skips.length kd) q.skips) (hT : KT w) :
  Calls Tryz.prog 38 #[.agg (sdcs p (.slice ka p.skips.length kc) d ns).toArray, .agg (sdcs q (.slice kb q.skips.length kd) f ms).toArray, .string ⟨List.toArray s⟩] w fun e w' => e = .returned (.bool (fitsW p q s)) ∧ Below w.heap.size w w' := by
 obtain ⟨BP, BQ, hb0⟩ := two_sides w (sdcs p (.slice ka p.skips.length kc) d ns) (sdcs q (.slice kb q.skips.length kd) f ms) 93 93
 have q1 := fun (X : World) (hX : Below w.heap.size w X) => wkey_any p ka kc d ns X (hk.keep hX) (hT.keep hX)
 have q2 := fun (X : World) (hX : Below w.heap.size w X) => wkey_any q kb kd f ms X (hq.keep hX) (hT.keep hX)
 generalize hR : fitsW p q s = R
 unfold fitsW at hR
 have HR := Lib.hid hR
 clear hR hk hq
 by_cases h1 : p.height = q.height
 case neg =>
  have HN := Lib.hid h1
  have k1 : (p.height == q.height) = false := by simpa using h1
  have k2 : decide (p.height = q.height) = false := by simpa using h1
  clear h1
  go_enter Tryz.func38, Tryz.ntmps38
  go_wp2_with fail
  refine wp_held rfl (by kernel_rfl) ?_
  (refine qP ?_ ?_ ?_; rotate_left; focus (intro w; go_simp; try with_reducible rfl))
  try simp only [pna, pnb, pnc, pnd, pne]
  (refine qP ?_ ?_ ?_; rotate_left; focus (intro w; go_simp; try with_reducible rfl))
  try simp only [pna, pnb, pnc, pnd, pne]
  refine wpQ_load (by rfl) (.int .i64 p.height) (fun w' hb2 => (by have c := (BP.keep hb2).cell 0; simp only [sdcs] at c; go_simp; try rfl)) ?_
  try simp only [pna, pnb, pnc, pnd, pne]
  (refine qP ?_ ?_ ?_; rotate_left; focus (intro w; go_simp; try with_reducible rfl))
  try simp only [pna, pnb, pnc, pnd, pne]
  (refine qP ?_ ?_ ?_; rotate_left; focus (intro w; go_simp; try with_reducible rfl))
  try simp only [pna, pnb, pnc, pnd, pne]
  refine wpQ_load (by rfl) (.int .i64 q.height) (fun w' hb2 => (by have c := (BQ.keep hb2).cell 0; simp only [sdcs] at c; go_simp; try rfl)) ?_
  try simp only [pna, pnb, pnc, pnd, pne]
  (refine qP ?_ ?_ ?_; rotate_left; focus (intro w; go_simp; try with_reducible rfl))
  try simp only [pna, pnb, pnc, pnd, pne]
  (refine qP ?_ ?_ ?_; rotate_left; focus (intro w; go_simp; try with_reducible rfl))
  try simp only [pna, pnb, pnc, pnd, pne]
  (refine wpQ_skip (by first | rfl | (go_simp; done) | (go_simp; rfl)) ?_)
  try simp only [pna, pnb, pnc, pnd, pne]
  (refine wpQ_skip (by first | rfl | (go_simp; done) | (go_simp; rfl)) ?_)
  try simp only [pna, pnb, pnc, pnd, pne]
  (refine wpQ_skip (by first | rfl | (go_simp; done) | (go_simp; rfl)) ?_)
  try simp only [pna, pnb, pnc, pnd, pne]
  (refine wpQ_skip (by first | rfl | (go_simp; done) | (go_simp; rfl)) ?_)
  try simp only [pna, pnb, pnc, pnd, pne]
  (refine wpQ_skip (by first | rfl | (go_simp; done) | (go_simp; rfl)) ?_)
  try simp only [pna, pnb, pnc, pnd, pne]
  (refine qP ?_ ?_ ?_; rotate_left; focus (intro w; go_simp; try with_reducible rfl))
  try simp only [pna, pnb, pnc, pnd, pne]
  (refine qP ?_ ?_ ?_; rotate_left; focus (intro w; go_simp; try with_reducible rfl))
  try simp only [pna, pnb, pnc, pnd, pne]
  (refine wpQ_skip (by first | rfl | (go_simp; done) | (go_simp; rfl)) ?_)
  try simp only [pna, pnb, pnc, pnd, pne]
  (refine wpQ_skip (by first | rfl | (go_simp; done) | (go_simp; rfl)) ?_)
  try simp only [pna, pnb, pnc, pnd, pne]
  (refine wpQ_skip (by first | rfl | (go_simp; done) | (go_simp; rfl)) ?_)
  try simp only [pna, pnb, pnc, pnd, pne]
  (refine wpQ_skip (by first | rfl | (go_simp; done) | (go_simp; rfl)) ?_)
  try simp only [pna, pnb, pnc, pnd, pne]
  (refine wpQ_skip (by first | rfl | (go_simp; done) | (go_simp; rfl)) ?_)
  try simp only [pna, pnb, pnc, pnd, pne]
  (refine qP ?_ ?_ ?_; rotate_left; focus (intro w; go_simp; try with_reducible rfl))
  try simp only [pna, pnb, pnc, pnd, pne]
  (refine qP ?_ ?_ ?_; rotate_left; focus (intro w; go_simp; try with_reducible rfl))
  try simp only [pna, pnb, pnc, pnd, pne]
  (refine wpQ_skip (by first | rfl | (go_simp; done) | (go_simp; rfl)) ?_)
  try simp only [pna, pnb, pnc, pnd, pne]
  (refine wpQ_skip (by first | rfl | (go_simp; done) | (go_simp; rfl)) ?_)
  try simp only [pna, pnb, pnc, pnd, pne]
  (refine wpQ_skip (by first | rfl | (go_simp; done) | (go_simp; rfl)) ?_)
  try simp only [pna, pnb, pnc, pnd, pne]
  (refine wpQ_skip (by first | rfl | (go_simp; done) | (go_simp; rfl)) ?_)
  try simp only [pna, pnb, pnc, pnd, pne]
  (refine wpQ_skip (by first | rfl | (go_simp; done) | (go_simp; rfl)) ?_)
  try simp only [pna, pnb, pnc, pnd, pne]
  (refine qP ?_ ?_ ?_; rotate_left; focus (intro w; go_simp; try with_reducible rfl))
  try simp only [pna, pnb, pnc, pnd, pne]
  (refine qP ?_ ?_ ?_; rotate_left; focus (intro w; go_simp; try with_reducible rfl))
  try simp only [pna, pnb, pnc, pnd, pne]
  intro wq hS
  go_wp2_with fail
  go_ret
  exact ⟨by rw [← HR.out]; simp [HN.out], hb0.trans (hS.mono hb0.size)⟩
 have HN1 := Lib.hid h1
 have k1 : (p.height == q.height) = true := by simpa using h1
 have k2 : decide (p.height = q.height) = true := by simpa using h1
 clear h1
 by_cases h2 : dgH p = dgH q
 case pos =>
  have HN := Lib.hid h2
  have k3 : decide (dgH p = dgH q) = true := by simpa using h2
  clear h2
  go_enter Tryz.func38, Tryz.ntmps38
  go_wp2_with fail
  refine wp_held rfl (by kernel_rfl) ?_
  (refine qP ?_ ?_ ?_; rotate_left; focus (intro w; go_simp; try with_reducible rfl))
  try simp only [pna, pnb, pnc, pnd, pne]
  (refine qP ?_ ?_ ?_; rotate_left; focus (intro w; go_simp; try with_reducible rfl))
  try simp only [pna, pnb, pnc, pnd, pne]
  refine wpQ_load (by rfl) (.int .i64 p.height) (fun w' hb2 => (by have c := (BP.keep hb2).cell 0; simp only [sdcs] at c; go_simp; try rfl)) ?_
  try simp only [pna, pnb, pnc, pnd, pne]
  (refine qP ?_ ?_ ?_; rotate_left; focus (intro w; go_simp; try with_reducible rfl))
  try simp only [pna, pnb, pnc, pnd, pne]
  (refine qP ?_ ?_ ?_; rotate_left; focus (intro w; go_simp; try with_reducible rfl))
  try simp only [pna, pnb, pnc, pnd, pne]
  refine wpQ_load (by rfl) (.int .i64 q.height) (fun w' hb2 => (by have c := (BQ.keep hb2).cell 0; simp only [sdcs] at c; go_simp; try rfl)) ?_
  try simp only [pna, pnb, pnc, pnd, pne]
  (refine qP ?_ ?_ ?_; rotate_left; focus (intro w; go_simp; try with_reducible rfl))
  try simp only [pna, pnb, pnc, pnd, pne]
  (refine qP ?_ ?_ ?_; rotate_left; focus (intro w; go_simp; try with_reducible rfl))
  try simp only [pna, pnb, pnc, pnd, pne]
  refine wpQ_row row_side (by rfl) (.tmp 3) rfl rfl (vs := sdcs p (.slice ka p.skips.length kc) d ns) (rfl) (fun w' hb2 => BP.keep hb2) ?_
  try simp only [pna, pnb, pnc, pnd, pne]
  refine wpQ_call (by rfl) _ _ (.agg #[.int .i64 p.height, .string ⟨List.toArray (dgH p)⟩]) (fun w' hb => (q1 w' (hb0.trans (hb.mono hb0.size))).mono fun _ _ ⟨he, h4⟩ => ⟨he, hb.trans (h4.mono hb.size)⟩) (by intro w; go_simp; try rfl) ?_
  try simp only [pna, pnb, pnc, pnd, pne]
  refine wpQ_row row_side (by rfl) (.tmp 4) rfl rfl (vs := sdcs q (.slice kb q.skips.length kd) f ms) (rfl) (fun w' hb2 => BQ.keep hb2) ?_
  try simp only [pna, pnb, pnc, pnd, pne]
  refine wpQ_call (by rfl) _ _ (.agg #[.int .i64 q.height, .string ⟨List.toArray (dgH q)⟩]) (fun w' hb => (q2 w' (hb0.trans (hb.mono hb0.size))).mono fun _ _ ⟨he, h4⟩ => ⟨he, hb.trans (h4.mono hb.size)⟩) (by intro w; go_simp; try rfl) ?_
  try simp only [pna, pnb, pnc, pnd, pne]
  (first | (refine wpQ_skip (by first | rfl | (go_simp; done) | (go_simp; rfl)) ?_) | (refine qP ?_ ?_ ?_; rotate_left; focus (intro w; go_simp; try with_reducible rfl)))
  try simp only [pna, pnb, pnc, pnd, pne]
  (refine qP ?_ ?_ ?_; rotate_left; focus (intro w; go_simp; try with_reducible rfl))
  try simp only [pna, pnb, pnc, pnd, pne]
  (refine qP ?_ ?_ ?_; rotate_left; focus (intro w; go_simp; try with_reducible rfl))
  try simp only [pna, pnb, pnc, pnd, pne]
  (refine wpQ_skip (by first | rfl | (go_simp; done) | (go_simp; rfl)) ?_)
  try simp only [pna, pnb, pnc, pnd, pne]
  (refine wpQ_skip (by first | rfl | (go_simp; done) | (go_simp; rfl)) ?_)
  try simp only [pna, pnb, pnc, pnd, pne]
  (refine wpQ_skip (by first | rfl | (go_simp; done) | (go_simp; rfl)) ?_)
  try simp only [pna, pnb, pnc, pnd, pne]
  (refine wpQ_skip (by first | rfl | (go_simp; done) | (go_simp; rfl)) ?_)
  try simp only [pna, pnb, pnc, pnd, pne]
  (refine wpQ_skip (by first | rfl | (go_simp; done) | (go_simp; rfl)) ?_)
  try simp only [pna, pnb, pnc, pnd, pne]
  (refine qP ?_ ?_ ?_; rotate_left; focus (intro w; go_simp; try with_reducible rfl))
  try simp only [pna, pnb, pnc, pnd, pne]
  (refine qP ?_ ?_ ?_; rotate_left; focus (intro w; go_simp; try with_reducible rfl))
  try simp only [pna, pnb, pnc, pnd, pne]
  (refine wpQ_skip (by first | rfl | (go_simp; done) | (go_simp; rfl)) ?_)
  try simp only [pna, pnb, pnc, pnd, pne]
  (refine wpQ_skip (by first | rfl | (go_simp; done) | (go_simp; rfl)) ?_)
  try simp only [pna, pnb, pnc, pnd, pne]
  (refine wpQ_skip (by first | rfl | (go_simp; done) | (go_simp; rfl)) ?_)
  try simp only [pna, pnb, pnc, pnd, pne]
  (refine wpQ_skip (by first | rfl | (go_simp; done) | (go_simp; rfl)) ?_)
  try simp only [pna, pnb, pnc, pnd, pne]
  (refine wpQ_skip (by first | rfl | (go_simp; done) | (go_simp; rfl)) ?_)
  try simp only [pna, pnb, pnc, pnd, pne]
  (refine qP ?_ ?_ ?_; rotate_left; focus (intro w; go_simp; try with_reducible rfl))
  try simp only [pna, pnb, pnc, pnd, pne]
  (refine qP ?_ ?_ ?_; rotate_left; focus (intro w; go_simp; try with_reducible rfl))
  try simp only [pna, pnb, pnc, pnd, pne]
  intro wq hS
  go_wp2_with fail
  go_ret
  exact ⟨by rw [← HR.out]; simp [HN.out], hb0.trans (hS.mono hb0.size)⟩
 have HN2 := Lib.hid h2
 have k3 : decide (dgH p = dgH q) = false := by simpa using h2
 clear h2
 by_cases h3 : p.members = s
 case neg =>
  have HN := Lib.hid h3
  have k4 : decide (p.members = s) = false := by simpa using h3
  go_enter Tryz.func38, Tryz.ntmps38
  go_wp2_with fail
  refine wp_held rfl (by kernel_rfl) ?_
  (refine qP ?_ ?_ ?_; rotate_left; focus (intro w; go_simp; try with_reducible rfl))
  try simp only [pna, pnb, pnc, pnd, pne]
  (refine qP ?_ ?_ ?_; rotate_left; focus (intro w; go_simp; try with_reducible rfl))
  try simp only [pna, pnb, pnc, pnd, pne]
  refine wpQ_load (by rfl) (.int .i64 p.height) (fun w' hb2 => (by have c := (BP.keep hb2).cell 0; simp only [sdcs] at c; go_simp; try rfl)) ?_
  try simp only [pna, pnb, pnc, pnd, pne]
  (refine qP ?_ ?_ ?_; rotate_left; focus (intro w; go_simp; try with_reducible rfl))
  try simp only [pna, pnb, pnc, pnd, pne]
  (refine qP ?_ ?_ ?_; rotate_left; focus (intro w; go_simp; try with_reducible rfl))
  try simp only [pna, pnb, pnc, pnd, pne]
  refine wpQ_load (by rfl) (.int .i64 q.height) (fun w' hb2 => (by have c := (BQ.keep hb2).cell 0; simp only [sdcs] at c; go_simp; try rfl)) ?_
  try simp only [pna, pnb, pnc, pnd, pne]
  (refine qP ?_ ?_ ?_; rotate_left; focus (intro w; go_simp; try with_reducible rfl))
  try simp only [pna, pnb, pnc, pnd, pne]
  (refine qP ?_ ?_ ?_; rotate_left; focus (intro w; go_simp; try with_reducible rfl))
  try simp only [pna, pnb, pnc, pnd, pne]
  refine wpQ_row row_side (by rfl) (.tmp 3) rfl rfl (vs := sdcs p (.slice ka p.skips.length kc) d ns) (rfl) (fun w' hb2 => BP.keep hb2) ?_
  try simp only [pna, pnb, pnc, pnd, pne]
  refine wpQ_call (by rfl) _ _ (.agg #[.int .i64 p.height, .string ⟨List.toArray (dgH p)⟩]) (fun w' hb => (q1 w' (hb0.trans (hb.mono hb0.size))).mono fun _ _ ⟨he, h4⟩ => ⟨he, hb.trans (h4.mono hb.size)⟩) (by intro w; go_simp; try rfl) ?_
  try simp only [pna, pnb, pnc, pnd, pne]
  refine wpQ_row row_side (by rfl) (.tmp 4) rfl rfl (vs := sdcs q (.slice kb q.skips.length kd) f ms) (rfl) (fun w' hb2 => BQ.keep hb2) ?_
  try simp only [pna, pnb, pnc, pnd, pne]
  refine wpQ_call (by rfl) _ _ (.agg #[.int .i64 q.height, .string ⟨List.toArray (dgH q)⟩]) (fun w' hb => (q2 w' (hb0.trans (hb.mono hb0.size))).mono fun _ _ ⟨he, h4⟩ => ⟨he, hb.trans (h4.mono hb.size)⟩) (by intro w; go_simp; try rfl) ?_
  try simp only [pna, pnb, pnc, pnd, pne]
  (first | (refine wpQ_skip (by first | rfl | (go_simp; done) | (go_simp; rfl)) ?_) | (refine qP ?_ ?_ ?_; rotate_left; focus (intro w; go_simp; try with_reducible rfl)))
  try simp only [pna, pnb, pnc, pnd, pne]
  (refine qP ?_ ?_ ?_; rotate_left; focus (intro w; go_simp; try with_reducible rfl))
  try simp only [pna, pnb, pnc, pnd, pne]
  (refine qP ?_ ?_ ?_; rotate_left; focus (intro w; go_simp; try with_reducible rfl))
  try simp only [pna, pnb, pnc, pnd, pne]
  (first | (refine wpQ_skip (by first | rfl | (go_simp; done) | (go_simp; rfl)) ?_) | (refine qP ?_ ?_ ?_; rotate_left; focus (intro w; go_simp; try with_reducible rfl)))
  try simp only [pna, pnb, pnc, pnd, pne]
  (first | (refine wpQ_skip (by first | rfl | (go_simp; done) | (go_simp; rfl)) ?_) | (refine qP ?_ ?_ ?_; rotate_left; focus (intro w; go_simp; try with_reducible rfl)))
  try simp only [pna, pnb, pnc, pnd, pne]
  refine wpQ_load (by rfl) (.string ⟨List.toArray p.members⟩) (fun w' hb2 => (by have c := (BP.keep hb2).cell 8; simp only [sdcs] at c; go_simp; try rfl)) ?_
  try simp only [pna, pnb, pnc, pnd, pne]
  (first | (refine wpQ_skip (by first | rfl | (go_simp; done) | (go_simp; rfl)) ?_) | (refine qP ?_ ?_ ?_; rotate_left; focus (intro w; go_simp; try with_reducible rfl)))
  try simp only [pna, pnb, pnc, pnd, pne]
  (first | (refine wpQ_skip (by first | rfl | (go_simp; done) | (go_simp; rfl)) ?_) | (refine qP ?_ ?_ ?_; rotate_left; focus (intro w; go_simp; try with_reducible rfl)))
  try simp only [pna, pnb, pnc, pnd, pne]
  (refine qP ?_ ?_ ?_; rotate_left; focus (intro w; go_simp; try with_reducible rfl))
  try simp only [pna, pnb, pnc, pnd, pne]
  (refine qP ?_ ?_ ?_; rotate_left; focus (intro w; go_simp; try with_reducible rfl))
  try simp only [pna, pnb, pnc, pnd, pne]
  (refine wpQ_skip (by first | rfl | (go_simp; done) | (go_simp; rfl)) ?_)
  try simp only [pna, pnb, pnc, pnd, pne]
  (refine wpQ_skip (by first | rfl | (go_simp; done) | (go_simp; rfl)) ?_)
  try simp only [pna, pnb, pnc, pnd, pne]
  (refine wpQ_skip (by first | rfl | (go_simp; done) | (go_simp; rfl)) ?_)
  try simp only [pna, pnb, pnc, pnd, pne]
  (refine wpQ_skip (by first | rfl | (go_simp; done) | (go_simp; rfl)) ?_)
  try simp only [pna, pnb, pnc, pnd, pne]
  (refine wpQ_skip (by first | rfl | (go_simp; done) | (go_simp; rfl)) ?_)
  try simp only [pna, pnb, pnc, pnd, pne]
  (refine qP ?_ ?_ ?_; rotate_left; focus (intro w; go_simp; try with_reducible rfl))
  try simp only [pna, pnb, pnc, pnd, pne]
  (refine qP ?_ ?_ ?_; rotate_left; focus (intro w; go_simp; try with_reducible rfl))
  try simp only [pna, pnb, pnc, pnd, pne]
  intro wq hS
  go_wp2_with fail
  go_ret
  exact ⟨by rw [← HR.out]; simp [HN.out], hb0.trans (hS.mono hb0.size)⟩
 have HN3 := Lib.hid h3
 have k4 : decide (p.members = s) = true := by simpa using h3
 have HZ : Hid ((q.members == s) = R) := Lib.hid (by rw [← HR.out]; simp only [HN1.out, HN2.out, HN3.out, decide_true, decide_false, Bool.not_false, Bool.true_and]; by_cases h : q.members = s <;> simp [h])
 go_enter Tryz.func38, Tryz.ntmps38
 go_wp2_with fail
 refine wp_held rfl (by kernel_rfl) ?_
 (refine qP ?_ ?_ ?_; rotate_left; focus (intro w; go_simp; try with_reducible rfl))
 try simp only [pna, pnb, pnc, pnd, pne]
 (refine qP ?_ ?_ ?_; rotate_left; focus (intro w; go_simp; try with_reducible rfl))
 try simp only [pna, pnb, pnc, pnd, pne]
 refine wpQ_load (by rfl) (.int .i64 p.height) (fun w' hb2 => (by have c := (BP.keep hb2).cell 0; simp only [sdcs] at c; go_simp; try rfl)) ?_
 try simp only [pna, pnb, pnc, pnd, pne]
 (refine qP ?_ ?_ ?_; rotate_left; focus (intro w; go_simp; try with_reducible rfl))
 try simp only [pna, pnb, pnc, pnd, pne]
 (refine qP ?_ ?_ ?_; rotate_left; focus (intro w; go_simp; try with_reducible rfl))
 try simp only [pna, pnb, pnc, pnd, pne]
 refine wpQ_load (by rfl) (.int .i64 q.height) (fun w' hb2 => (by have c := (BQ.keep hb2).cell 0; simp only [sdcs] at c; go_simp; try rfl)) ?_
 try simp only [pna, pnb, pnc, pnd, pne]
 (refine qP ?_ ?_ ?_; rotate_left; focus (intro w; go_simp; try with_reducible rfl))
 try simp only [pna, pnb, pnc, pnd, pne]
 (refine qP ?_ ?_ ?_; rotate_left; focus (intro w; go_simp; try with_reducible rfl))
 try simp only [pna, pnb, pnc, pnd, pne]
 refine wpQ_row row_side (by rfl) (.tmp 3) rfl rfl (vs := sdcs p (.slice ka p.skips.length kc) d ns) (rfl) (fun w' hb2 => BP.keep hb2) ?_
 try simp only [pna, pnb, pnc, pnd, pne]
 refine wpQ_call (by rfl) _ _ (.agg #[.int .i64 p.height, .string ⟨List.toArray (dgH p)⟩]) (fun w' hb => (q1 w' (hb0.trans (hb.mono hb0.size))).mono fun _ _ ⟨he, h4⟩ => ⟨he, hb.trans (h4.mono hb.size)⟩) (by intro w; go_simp; try rfl) ?_
 try simp only [pna, pnb, pnc, pnd, pne]
 refine wpQ_row row_side (by rfl) (.tmp 4) rfl rfl (vs := sdcs q (.slice kb q.skips.length kd) f ms) (rfl) (fun w' hb2 => BQ.keep hb2) ?_
 try simp only [pna, pnb, pnc, pnd, pne]
 refine wpQ_call (by rfl) _ _ (.agg #[.int .i64 q.height, .string ⟨List.toArray (dgH q)⟩]) (fun w' hb => (q2 w' (hb0.trans (hb.mono hb0.size))).mono fun _ _ ⟨he, h4⟩ => ⟨he, hb.trans (h4.mono hb.size)⟩) (by intro w; go_simp; try rfl) ?_
 try simp only [pna, pnb, pnc, pnd, pne]
 (first | (refine wpQ_skip (by first | rfl | (go_simp; done) | (go_simp; rfl)) ?_) | (refine qP ?_ ?_ ?_; rotate_left; focus (intro w; go_simp; try with_reducible rfl)))
 try simp only [pna, pnb, pnc, pnd, pne]
 (refine qP ?_ ?_ ?_; rotate_left; focus (intro w; go_simp; try with_reducible rfl))
 try simp only [pna, pnb, pnc, pnd, pne]
 (refine qP ?_ ?_ ?_; rotate_left; focus (intro w; go_simp; try with_reducible rfl))
 try simp only [pna, pnb, pnc, pnd, pne]
 (first | (refine wpQ_skip (by first | rfl | (go_simp; done) | (go_simp; rfl)) ?_) | (refine qP ?_ ?_ ?_; rotate_left; focus (intro w; go_simp; try with_reducible rfl)))
 try simp only [pna, pnb, pnc, pnd, pne]
 (first | (refine wpQ_skip (by first | rfl | (go_simp; done) | (go_simp; rfl)) ?_) | (refine qP ?_ ?_ ?_; rotate_left; focus (intro w; go_simp; try with_reducible rfl)))
 try simp only [pna, pnb, pnc, pnd, pne]
 refine wpQ_load (by rfl) (.string ⟨List.toArray p.members⟩) (fun w' hb2 => (by have c := (BP.keep hb2).cell 8; simp only [sdcs] at c; go_simp; try rfl)) ?_
 try simp only [pna, pnb, pnc, pnd, pne]
 (first | (refine wpQ_skip (by first | rfl | (go_simp; done) | (go_simp; rfl)) ?_) | (refine qP ?_ ?_ ?_; rotate_left; focus (intro w; go_simp; try with_reducible rfl)))
 try simp only [pna, pnb, pnc, pnd, pne]
 (first | (refine wpQ_skip (by first | rfl | (go_simp; done) | (go_simp; rfl)) ?_) | (refine qP ?_ ?_ ?_; rotate_left; focus (intro w; go_simp; try with_reducible rfl)))
 try simp only [pna, pnb, pnc, pnd, pne]
 (refine qP ?_ ?_ ?_; rotate_left; focus (intro w; go_simp; try with_reducible rfl))
 try simp only [pna, pnb, pnc, pnd, pne]
 (refine qP ?_ ?_ ?_; rotate_left; focus (intro w; go_simp; try with_reducible rfl))
 try simp only [pna, pnb, pnc, pnd, pne]
 (first | (refine wpQ_skip (by first | rfl | (go_simp; done) | (go_simp; rfl)) ?_) | (refine qP ?_ ?_ ?_; rotate_left; focus (intro w; go_simp; try with_reducible rfl)))
 try simp only [pna, pnb, pnc, pnd, pne]
 (first | (refine wpQ_skip (by first | rfl | (go_simp; done) | (go_simp; rfl)) ?_) | (refine qP ?_ ?_ ?_; rotate_left; focus (intro w; go_simp; try with_reducible rfl)))
 try simp only [pna, pnb, pnc, pnd, pne]
 refine wpQ_load (by rfl) (.string ⟨List.toArray q.members⟩) (fun w' hb2 => (by have c := (BQ.keep hb2).cell 8; simp only [sdcs] at c; go_simp; try rfl)) ?_
 try simp only [pna, pnb, pnc, pnd, pne]
 (first | (refine wpQ_skip (by first | rfl | (go_simp; done) | (go_simp; rfl)) ?_) | (refine qP ?_ ?_ ?_; rotate_left; focus (intro w; go_simp; try with_reducible rfl)))
 try simp only [pna, pnb, pnc, pnd, pne]
 (first | (refine wpQ_skip (by first | rfl | (go_simp; done) | (go_simp; rfl)) ?_) | (refine qP ?_ ?_ ?_; rotate_left; focus (intro w; go_simp; try with_reducible rfl)))
 try simp only [pna, pnb, pnc, pnd, pne]
 (refine qP ?_ ?_ ?_; rotate_left; focus (intro w; go_simp; try with_reducible rfl))
 try simp only [pna, pnb, pnc, pnd, pne]
 (refine qP ?_ ?_ ?_; rotate_left; focus (intro w; go_simp; try with_reducible rfl))
 try simp only [pna, pnb, pnc, pnd, pne]
 intro wq hS
 go_wp2_with fail
 go_ret
 exact ⟨by rw [← HZ.out]; rfl, hb0.trans (hS.mono hb0.size)⟩
end Go.Proofs.YthkpmlfaddlieaaGreatDoor
