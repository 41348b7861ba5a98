/- Fork. -/
import Derived.ArgAppend
import Derived.Test.YthkpmlfaddlieaaGreatDoorMs16
import Derived.Test.YthkpmlfaddlieaaGreatDoorMs17
import Derived.Test.YthkpmlfaddlieaaGreatDoorMs18
set_option linter.unnecessarySimpa false
set_option linter.unusedSimpArgs false
set_option linter.unusedVariables false
set_option maxRecDepth 100000
set_option maxHeartbeats 32000000
namespace Go.Proofs.YthkpmlfaddlieaaGreatDoor
open Go.RowKit Go.Shelf Pl
def fkcs (at_ by_ up : Int) (va vb : Value) (all : Bool) : List Value := [.int .i64 at_,.int .i64 by_,.int .i64 up,va,vb,.bool all]
def acs (ht : Int) (hv nv : Value) (dg : Bs) (sg : Value) : List Value := [.int .i64 0,.int .i64 ht,hv,.slice none 0 0,nv,.string ⟨dg.toArray⟩,sg,.slice none 0 0,.slice none 0 0,.string ⟨List.toArray []⟩,.slice none 0 0]
theorem row_fk : RowT Tryz.prog 29 6 := RowT.mk' Tryz.underlying29 rfl (by kernel_rfl)
theorem row_ans : RowT Tryz.prog 42 11 := RowT.mk' Tryz.underlying42 rfl (by kernel_rfl)
theorem ent_head {w : World} {b : Nat} {x : Ent} {sk it st nx : Value} (h : Blk w b (ecs x sk it st nx).toArray) : w.rangeAt b 0 (hcs x.head sk) := by
 intro j v hj
 have hl := (List.getElem?_eq_some_iff.1 hj).1
 rw [Nat.zero_add,h.cell j]
 simp only [List.getElem?_toArray]
 rw [show ecs x sk it st nx = hcs x.head sk ++ [.string ⟨List.toArray x.sum⟩,.slice none 0 0,.slice none 0 0,it,st,nx] from rfl,List.getElem?_append_left hl]
 exact hj
def pmHd (B : Nat) (h : Hd) (sk : Value) : Pm := ⟨fun w v => ∃ k : Nat,v = .slice (some ⟨k,0,none⟩) 1 1 ∧ B ≤ k ∧ Blk w k (hcs h sk).toArray ∧ Typ w k 48,fun w w' v h hb => by
 obtain ⟨k,h1,h2,h3,h4⟩ := h
 exact ⟨k,h1,h2,h3.keep hb,h4.keep hb⟩⟩
def pmM (B : Nat) (l : List (Bs × Int)) : Pm := ⟨fun w v => MRow w B v l,fun w w' v h hb => h.keep hb⟩
def pmS (B : Nat) (l : List Bs) : Pm := ⟨fun w v => SRow w B v l,fun w w' v h hb => h.keep hb⟩
def pmE0 : Pm := ⟨fun w v => ∃ k : Nat,v = .slice (some ⟨k,0,none⟩) 0 0,fun w w' v h hb => h⟩
def pmCt (B : Nat) (d : Bs) (l : List Bs) : Pm := ⟨fun w v => ∃ u,v = .agg #[.string ⟨d.toArray⟩,u] ∧ SRow w B u l,fun w w' v h hb => by
 obtain ⟨u,h1,h2⟩ := h
 exact ⟨u,h1,h2.keep hb⟩⟩
def AnsV (w : World) (B : Nat) (ht : Int) (h : Hd) (sk : Value) (nx : List (Bs × Int)) (d : Bs) (l : List Bs) (hv nv sg : Value) : Prop := (pmHd B h sk).p w hv ∧ MRow w B nv nx ∧ SRow w B sg l
def pmAns (B : Nat) (ht : Int) (h : Hd) (sk : Value) (nx : List (Bs × Int)) (d : Bs) (l : List Bs) : Pm := ⟨fun w v => ∃ hv nv sg,v = .agg (acs ht hv nv d sg).toArray ∧ AnsV w B ht h sk nx d l hv nv sg,fun w w' v h hb => by
 obtain ⟨hv,nv,sg,h1,h2,h3,h4⟩ := h
 exact ⟨hv,nv,sg,h1,(pmHd _ _ _).mono w w' _ h2 hb,h3.keep hb,h4.keep hb⟩⟩
theorem AnsV.one {w : World} {B : Nat} {ht : Int} {h : Hd} {sk : Value} {nx : List (Bs × Int)} {d : Bs} {l : List Bs} {hv nv sg : Value} (hA : AnsV w B ht h sk nx d l hv nv sg) : ∀ u ∈ acs ht hv nv d sg,u.oneCell' = true := by
 obtain ⟨⟨k,rfl,_⟩,h2,h3⟩ := hA
 obtain ⟨a2,c2,rfl⟩ := h2.form
 obtain ⟨a3,c3,rfl⟩ := h3.form
 intro u hu
 simp only [acs,List.mem_cons,List.not_mem_nil,or_false] at hu
 rcases hu with rfl | rfl | rfl | rfl | rfl | rfl | rfl | rfl | rfl | rfl | rfl <;> rfl
theorem AnsV.keep {w w' : World} {B : Nat} {ht : Int} {h : Hd} {sk : Value} {nx : List (Bs × Int)} {d : Bs} {l : List Bs} {hv nv sg : Value} (hA : AnsV w B ht h sk nx d l hv nv sg) (hb : Below w.heap.size w w') : AnsV w' B ht h sk nx d l hv nv sg :=
 ⟨(pmHd _ _ _).mono w w' _ hA.1 hb,hA.2.1.keep hb,hA.2.2.keep hb⟩
theorem AnsV.modT {w w' : World} {B k : Nat} {ht : Int} {h : Hd} {sk : Value} {nx : List (Bs × Int)} {d : Bs} {l : List Bs} {hv nv sg : Value} {t : TypeId} (hA : AnsV w B ht h sk nx d l hv nv sg) (hm : Mod [k] w w') (hT : Typ w k t)
  (h1 : t ≠ 48) (h2 : t ≠ 77) (h3 : t ≠ 9) : AnsV w' B ht h sk nx d l hv nv sg := by
 obtain ⟨⟨k2,e,b1,b2,b3⟩,c,d⟩ := hA
 have hne : k2 ∉ [k] := by simpa using b3.ne hT (fun e => h1 e.symm)
 exact ⟨⟨k2,e,b1,b2.mod hm hne,b3.mod hm hne⟩,c.modT hm hT h2,d.modT hm hT h3⟩
theorem AnsV.orf {w w' : World} {B p : Nat} {ht : Int} {h : Hd} {sk : Value} {nx : List (Bs × Int)} {d : Bs} {l : List Bs} {hv nv sg : Value} (hA : AnsV w B ht h sk nx d l hv nv sg) (hm : OrF p w w') (hp : p < B) : AnsV w' B ht h sk nx d l hv nv sg := by
 obtain ⟨⟨k2,e,b1,b2,b3⟩,c,d⟩ := hA
 have hf := b3.foreign (p := p) (by decide) (by omega)
 exact ⟨⟨k2,e,b1,b2.orf hf hm,b3.at (hm.block k2 hf)⟩,c.orf hm hp,d.orf hm hp⟩
theorem ob_appM0 {o : Oper} {a : Act} {w : World} {Q : Exit → Act → World → Prop} (s x : Operand)
  (ho : o.op = .call { callee := .builtin .append,args := #[s,x],argTypes := #[23,23] }) (B k : Nat) (hs : a.eval s = .slice (some ⟨k,0,none⟩) 0 0)
  (l : List (Bs × Int)) (ad : Option Addr) (c : Nat) (hx : a.eval x = .slice ad l.length c) (hsrc : MS w (.slice ad l.length c) l) (hl0 : l ≠ []) (hl : l.length ≤ 1000000) (hB : B ≤ w.heap.size) :
  o.wp Tryz.prog a w (fun a' w' => ∃ u,a' = a.put o.dst u ∧ Below w.heap.size w w' ∧ MRow w' B u l) Q := by
 obtain ⟨au,cu,hu,h1,h2,h3⟩ := hsrc
 injection hu with e1 _ e3
 subst e1 e3
 obtain ⟨g,off,rfl,hg,hc⟩ := h3 hl0
 obtain ⟨i0,hi,hz0,hz1,hz2⟩ := info_parts infoMem
 have hne : l.length ≠ 0 := fun e => hl0 (List.length_eq_zero_iff.1 e)
 obtain ⟨v',w',hr,hown,hgr⟩ := run_append_arg_grows (P := Tryz.prog) w 23 o.type 77 i0 _ 2 24 Tryz.underlying23 hi hz0 hz1 hz2 rfl (by decide) ⟨k,0,none⟩ 0 0 [] rfl (fun j u h => by simp at h) ⟨g,off,none⟩ l.length c (mv l) (by rw [mv_len]) (msrc_news hc) (by omega) (by unfold maxLen; omega) (by omega)
 unfold Oper.wp execOp
 simp only [ho,resolve,invoke,builtin,Sem.run_bind,Sem.run_pure,Result.andThen_ok,List.map_toArray,List.map_cons,List.map_nil,hs,hx,hr]
 refine ⟨v',rfl,grown_below hgr (Nat.le_refl _) (fun k hk => by cases hk),?_⟩
 rw [Nat.zero_add,List.nil_append] at hown
 exact row_lowO hown hB
def TabOk (E : List Ent) (L : List Sg) : Prop := ∀ n m,isIn L n m = true → ∃ k,1 ≤ k ∧ k < E.length ∧ m = (markP 6 (E.getD k entZ).sum).1
def TabOk2 (E : List Ent) (B : List Bs) (d : Bs) (all : Bool) (L : List Sg) : Prop := ∀ n m,isIn L n m = true →
 (∃ k,1 ≤ k ∧ k < E.length ∧ m = (markP 6 (E.getD k entZ).sum).1) ∨ (m = (markP 6 d).1 ∧ (markP 6 d).2 = 0 ∧ (badB B n = true ∨ all = true))
theorem tabOk_nil (E : List Ent) : TabOk E [] := fun n m h => by simp [isIn] at h
theorem TabOk.sign {E : List Ent} {L : List Sg} (h : TabOk E L) (who : Bs) (b : Bool) (k : Nat) (h1 : 1 ≤ k) (h2 : k < E.length) : TabOk E (signL L who (markP 6 (E.getD k entZ).sum).1 b).1 := fun n m hi => by
 rcases signL_in hi with h3 | ⟨_,h4,_⟩
 ·exact h n m h3
 ·exact ⟨k,h1,h2,h4⟩
theorem TabOk.two {E : List Ent} {L : List Sg} (h : TabOk E L) (B : List Bs) (d : Bs) (all : Bool) : TabOk2 E B d all L := fun n m hi => .inl (h n m hi)
theorem TabOk2.sign {E : List Ent} {L : List Sg} {B : List Bs} {d : Bs} {all : Bool} (h : TabOk2 E B d all L) (who : Bs) (b : Bool) (h1 : (markP 6 d).2 = 0) (h2 : badB B who = true ∨ all = true) : TabOk2 E B d all (signL L who (markP 6 d).1 b).1 := fun n m hi => by
 rcases signL_in hi with h3 | ⟨h4,h5,_⟩
 ·exact h n m h3
 ·exact .inr ⟨h5,h1,by rw [h4]; exact h2⟩
theorem dgH_le (h : Hd) : (dgH h).length ≤ 32 := by
 cases hf : fineH h
 ·rw [dgH_no hf]; simp
 ·rw [dgH_len hf]; exact Nat.le_refl _
theorem Tab.mod1 {w w' : World} {base p k : Nat} {L : List Sg} (h : Tab w base p L) (hm : Mod [k] w w') (hk : k < base) : Tab w' base p L := by
 obtain ⟨b,sv,h1,h2,h3,h4,h5,h6⟩ := h
 refine ⟨b,sv,h1,h2,h3.mod hm (by simp; omega),ownsMap_mod h4 hm (by simp; omega),h5.mod hm (fun x hx hm => ?_),h6⟩
 have := (h5.own x hx).1
 simp only [List.mem_singleton] at hm
 omega
theorem AnsV.mod1 {w w' : World} {B k : Nat} {ht : Int} {h : Hd} {sk : Value} {nx : List (Bs × Int)} {d : Bs} {l : List Bs} {hv nv sg : Value} (hA : AnsV w B ht h sk nx d l hv nv sg) (hm : Mod [k] w w') (hk : k < B) : AnsV w' B ht h sk nx d l hv nv sg := by
 obtain ⟨⟨k2,e,b1,b2,b3⟩,c,d⟩ := hA
 have hne : k2 ∉ [k] := by simp; omega
 exact ⟨⟨k2,e,b1,b2.mod hm hne,b3.mod hm hne⟩,c.mod hm hk,d.mod hm hk⟩
def AnsR (w : World) (h : Hd) (sk : Value) (nx : List (Bs × Int)) (l : List Bs) (hv nv sg : Value) : Prop := (∃ k : Nat,hv = .slice (some ⟨k,0,none⟩) 1 1 ∧ Blk w k (hcs h sk).toArray) ∧ MS w nv nx ∧ SS w sg l ∧ SS w sk h.skips
theorem AnsR.keep {w w' : World} {h : Hd} {sk : Value} {nx : List (Bs × Int)} {l : List Bs} {hv nv sg : Value} (hA : AnsR w h sk nx l hv nv sg) (hb : Below w.heap.size w w') : AnsR w' h sk nx l hv nv sg := by
 obtain ⟨⟨k,e,b⟩,c,d,g⟩ := hA
 exact ⟨⟨k,e,b.keep hb⟩,c.keep hb,d.keep hb,g.keep hb⟩
theorem AnsV.r {w : World} {B : Nat} {ht : Int} {h : Hd} {sk : Value} {nx : List (Bs × Int)} {d : Bs} {l : List Bs} {hv nv sg : Value} (hA : AnsV w B ht h sk nx d l hv nv sg) (hs : SS w sk h.skips) : AnsR w h sk nx l hv nv sg := by
 obtain ⟨⟨k,e,_,b,_⟩,c,d⟩ := hA
 exact ⟨⟨k,e,b⟩,c.ms,d.ss,hs⟩
def ForkO (w w' : World) (at_ : Int) (B : List Bs) (E : List Ent) (all : Bool) (la lb : List Bool) (e : Ending) : Prop :=
 ∃ (i j : Nat) (p q : Ent) (qh : Hd) (sk1 sk2 hv1 nv1 sg1 hv2 nv2 sg2 : Value) (base pt : Nat) (L : List Sg),
  i = modN at_ E.length ∧ E[i]? = some p ∧ E[j]? = some q ∧ (∃ vw,qh = { q.head with view := vw }) ∧
  e = .returned (.tuple #[.agg (acs (i : Int) hv1 nv1 p.sum sg1).toArray,.agg (acs (j : Int) hv2 nv2 (dgH qh) sg2).toArray,.pointer (some ⟨pt,0,none⟩)]) ∧
  AnsR w' p.head sk1 p.next (namedL p.set la p.set.length) hv1 nv1 sg1 ∧ AnsR w' qh sk2 q.next (namedL q.set lb q.set.length) hv2 nv2 sg2 ∧
  Tab w' base pt L ∧ w.heap.size ≤ base ∧ TabOk2 E B (dgH qh) all L ∧ Below w.heap.size w w'
theorem results_c2 {P : Program} {fn : Func} {a b c : Nat} {t u : TypeId} (h : fn.results = #[.cell a t,.cell b u,.tmp c]) (tmps : Array Value) (w : World) (p q : Addr) (v x : Value) (hp : tmps.getD a undef = .pointer (some p)) (hq : tmps.getD b undef = .pointer (some q))
  (hl : (loadVar t p).run P w = .ok v w) (hm : (loadVar u q).run P w = .ok x w) : (results fn tmps).run P w = .ok (.tuple #[v,x,tmps.getD c undef]) w := by
 unfold results
 rw [h]
 rw [Array.getD_eq_getD_getElem?] at hp hq
 simp [hp,hq,asAddr,hl,hm,Sem.run_bind]
theorem fork_any (A : List Acc) (S : List (Bs × Int)) (B : List Bs) (many at_ by_ up : Int) (va vs vb v fa fb : Value) (all : Bool) (la lb : List Bool) (E : List Ent) (w : World)
  (hA : AcL w va A) (hS : MS w vs S) (hB : SS w vb B) (hE : LedI S E) (hv : EL w v E) (hn : E.length ≤ 6) (hfa : BoL w fa la) (hfb : BoL w fb lb) :
  Calls Tryz.prog 8 #[.agg (wdcs va vs many vb).toArray,v,.agg (fkcs at_ by_ up fa fb all).toArray] w fun e w' => ForkO w w' at_ B E all la lb e := by
 obtain ⟨ea,ec,rfl⟩ := hv.form
 have qn := fun W => onew_any W
 have q1 := fun W => below_any at_ E.length (by have := hE.ne; omega) (by omega) W
 have hy := modN_lt at_ E.length (by have := hE.ne; omega)
 generalize hie : modN at_ E.length = i at *
 have HIE := Lib.hid hie
 clear hie
 obtain ⟨p,hp⟩ : ∃ p,E[i]? = some p := ⟨E[i],List.getElem?_eq_getElem hy⟩
 have hpi : EntI S p i := by
  have := hE.all i hy
  rwa [List.getD_eq_getElem?_getD,hp] at this
 obtain ⟨g,off,sk,it,st,nx,e1,hg,hr,hat⟩ := hv.at i p hp
 subst e1
 have i1 : (i : Int) < (E.length : Int) := by omega
 have HA := Lib.hid hA
 have HS := Lib.hid hS
 have HB := Lib.hid hB
 have HBB := HB
 have HE := Lib.hid hE
 have HV := Lib.hid hv
 have HFA := Lib.hid hfa
 have HFB := Lib.hid hfb
 have HAT := Lib.hid hat
 obtain ⟨z1,z2,z3,z4⟩ := hat
 obtain ⟨ka,kc,hsk⟩ := z1.form
 obtain ⟨ia,ic,hit⟩ := z2.form
 obtain ⟨sa,sc,hst⟩ := z3.form
 obtain ⟨na,nc,hnx⟩ := z4.form
 simp only at hsk hit hst hnx
 subst hsk hit hst hnx
 clear hA hS hB hE hv hfa hfb z1 z2 z3 z4
 have HB4 : ∃ W4,W4 = (((w.alloc (.cells (wdcs va vs many vb).toArray 26)).alloc (.cells (fkcs at_ by_ up fa fb all).toArray 29)).alloc (.cells (acs 0 (.slice none 0 0) (.slice none 0 0) [] (.slice none 0 0)).toArray 42)).alloc (.cells (acs 0 (.slice none 0 0) (.slice none 0 0) [] (.slice none 0 0)).toArray 42) := ⟨_,rfl⟩
 obtain ⟨W4,hW4⟩ := HB4
 have hb4 : Below w.heap.size w W4 := by rw [hW4]; exact Below.allocS (Below.allocS (Below.allocS (Below.allocS (Below.refl _ _) _) _) _) _
 have N3 : Blk W4 w.heap.size (wdcs va vs many vb).toArray := by rw [hW4]; exact (((Blk.new _ _ _).alloc _).alloc _).alloc _
 have N5 : Blk W4 (w.heap.size + 1) (fkcs at_ by_ up fa fb all).toArray := by rw [hW4]; exact ((Blk.new' (by simp)).alloc _).alloc _
 have N6 : Blk W4 (w.heap.size + 1 + 1) (acs 0 (.slice none 0 0) (.slice none 0 0) [] (.slice none 0 0)).toArray := by rw [hW4]; exact (Blk.new' (by simp)).alloc _
 have N7 : Blk W4 (w.heap.size + 1 + 1 + 1) (acs 0 (.slice none 0 0) (.slice none 0 0) [] (.slice none 0 0)).toArray := by rw [hW4]; exact Blk.new' (by simp)
 go_enter Tryz.func8,Tryz.ntmps8
 go_wp2_with fail
 show Calls _ _ _ ((((w.alloc (.cells (wdcs va vs many vb).toArray 26)).alloc (.cells (fkcs at_ by_ up fa fb all).toArray 29)).alloc (.cells (acs 0 (.slice none 0 0) (.slice none 0 0) [] (.slice none 0 0)).toArray 42)).alloc (.cells (acs 0 (.slice none 0 0) (.slice none 0 0) [] (.slice none 0 0)).toArray 42)) _
 rw [← hW4]
 clear hW4
 have qo := onew_any W4
 generalize hp4 : W4.heap.size + 1 = p4 at *
 refine qo.mono ?_
 rintro e w5 ⟨rfl,hTab,hb5⟩
 have hs4 : w.heap.size + 4 ≤ W4.heap.size := by have := N7.lt; omega
 have hb45 := hb4.trans (hb5.mono hb4.size)
 have N3 := N3.keep hb5
 have N5 := N5.keep hb5
 have N6 := N6.keep hb5
 have N7 := N7.keep hb5
 have x0 := N5.cell 0
 simp only [fkcs,List.getElem?_toArray,List.getElem?_cons_zero,List.getElem?_cons_succ] at x0
 have hrg := rg_keep hr hg hb45
 clear qo
 go_wp2_with fail
 refine (q1 _).mono ?_
 rintro e w5' ⟨rfl,rfl⟩
 go_upto_region 3 with (first
  | (refine wpList_rowR row_ent rfl (.tmp 29) rfl rfl (vs := ecs p (.slice ka p.head.skips.length kc) (.slice ia p.items.length ic) (.slice sa p.set.length sc) (.slice na p.next.length nc)) rfl hrg ?_)
  | (refine wpList_rowStoreT row_ent rfl rfl (.tmp 10) (.tmp 30) rfl rfl (vs := ecs p (.slice ka p.head.skips.length kc) (.slice ia p.items.length ic) (.slice sa p.set.length sc) (.slice na p.next.length nc)) rfl rfl (ecs_one _ _ _ _ _ _ _ _ _ _ _ _ _) (us := ecs entZ (.slice none 0 0) (.slice none 0 0) (.slice none 0 0) (.slice none 0 0)) rfl (Blk.new' (by simp)) (Typ.new' rfl) ?_; intro w6 N10 T10 m6)
  | fail)
 have hht : p.head.height = (i : Int) := hpi.ht
 have hb6 : Below w5'.heap.size w5' w6 := Below.mod (Below.allocS (Below.refl _ _) _) m6 (by simp) (by simp)
 have HN6 := Lib.hid (N6.keep hb6)
 have HN7 := Lib.hid (N7.keep hb6)
 have N3 := N3.keep hb6
 have N5 := N5.keep hb6
 have hb06 := hb45.trans (hb6.mono hb45.size)
 have hk10w : w5'.heap.size < w6.heap.size := N10.lt
 have HTab := Lib.hid (hTab.keep hb6)
 have HK10 : Hid (p4 < w5'.heap.size) := Lib.hid hTab.lt.1
 have HS5 := Lib.hid hb5
 clear N6 N7 hTab hrg hb45 m6 x0 q1 hr hg hb6 hb5
 have hu2 := modN_lt up 2 (by decide)
 have q2 := fun W => below_any up 2 (by decide) (by decide) W
 generalize hue : modN up 2 = u2 at *
 obtain ⟨j,hj1,hj2⟩ : ∃ j : Nat,min ((i : Int) + (u2 : Int)) ((E.length : Int) - 1) = (j : Int) ∧ j < E.length := ⟨(min ((i : Int) + (u2 : Int)) ((E.length : Int) - 1)).toNat,by omega,by omega⟩
 obtain ⟨q,hq⟩ : ∃ q,E[j]? = some q := ⟨E[j],List.getElem?_eq_getElem hj2⟩
 obtain ⟨g2,off2,sk2,it2,st2,nx2,e2,hg,hr,hat2⟩ := HV.out.at j q hq
 injection e2 with e2
 injection e2 with e2 e3 _
 subst e2 e3
 have HAT2 := Lib.hid hat2
 obtain ⟨z1,z2,z3,z4⟩ := hat2
 obtain ⟨ka2,kc2,hsk⟩ := z1.form
 obtain ⟨ia2,ic2,hit⟩ := z2.form
 obtain ⟨sa2,sc2,hst⟩ := z3.form
 obtain ⟨na2,nc2,hnx⟩ := z4.form
 simp only at hsk hit hst hnx
 subst hsk hit hst hnx
 have HRG2 := Lib.hid (rg_keep hr hg hb06)
 have hgw := Nat.lt_of_lt_of_le hg hb06.size
 clear z1 z2 z3 z4 hr
 have a1 : IntKind.i64.wrap ((i : Int) + (u2 : Int)) = (i : Int) + (u2 : Int) := by rw [IntKind.wrap_i64]; omega
 have a2 : IntKind.i64.wrap ((E.length : Int) - 1) = (E.length : Int) - 1 := by rw [IntKind.wrap_i64]; omega
 have j1 : (j : Int) < (E.length : Int) := by omega
 refine wp_region_inv2 rfl 15 ⟨none,.store 52 (.tmp 11) (.tmp 44),0,"law.go:77",#[⟨14,.data⟩,⟨13,.data⟩,⟨6,.chain⟩,⟨0,.phase⟩,⟨1,.phase⟩,⟨2,.phase⟩,⟨3,.phase⟩,⟨4,.phase⟩,⟨5,.phase⟩,⟨6,.phase⟩,⟨7,.phase⟩,⟨8,.phase⟩,⟨9,.phase⟩,⟨10,.phase⟩,⟨11,.phase⟩,⟨12,.phase⟩,⟨13,.phase⟩,⟨14,.phase⟩],none⟩ rfl (by kernel_rfl) [31,32,33,34,35,36,37,38,39,40,41,42,43,44,11] (by kernel_rfl) [.eq (.slice (some ⟨g,off,none⟩) E.length ec),.eq (.pointer (some ⟨w5'.heap.size,0,none⟩)),.eq (.pointer (some ⟨w5'.heap.size,0,none⟩)),.eq (.int .i64 ((i : Int))),.eq (.pointer (some ⟨w.heap.size + 1,2,none⟩)),.eq (.int .i64 up),.eq (.int .i64 ((u2 : Int))),.eq (.int .i64 ((i : Int) + (u2 : Int))),.eq (.slice (some ⟨g,off,none⟩) E.length ec),.eq (.int .i64 ((E.length : Int))),.eq (.int .i64 ((E.length : Int) - 1)),.eq (.int .i64 ((j : Int))),.eq (.pointer (some ⟨g,off + j * 17,none⟩)),.eq (.agg (ecs q (.slice ka2 q.head.skips.length kc2) (.slice ia2 q.items.length ic2) (.slice sa2 q.set.length sc2) (.slice na2 q.next.length nc2)).toArray),pmBlk w6.heap.size 52 (ecs entZ (.slice none 0 0) (.slice none 0 0) (.slice none 0 0) (.slice none 0 0)).toArray] (fun i hi => ?_) (fun vals wF hF hv => ?_)
 focus
  obtain rfl | rfl | rfl | rfl | rfl | rfl | rfl | rfl | rfl | rfl | rfl | rfl | rfl | rfl | rfl : i = 0 ∨ i = 1 ∨ i = 2 ∨ i = 3 ∨ i = 4 ∨ i = 5 ∨ i = 6 ∨ i = 7 ∨ i = 8 ∨ i = 9 ∨ i = 10 ∨ i = 11 ∨ i = 12 ∨ i = 13 ∨ i = 14 := by omega
  focus
   intro o ho a wo hS hdep hout
   obtain rfl := Option.some.inj (show some (⟨some 31,.move (.tmp 1),31,"law.go:77",#[],none⟩ : Oper) = some o from ho)
   have e1 : a.eval (.tmp 1) = .slice (some ⟨g,off,none⟩) E.length ec := hout 1 rfl
   have evc : ∀ v,a.eval (.const v) = v := fun _ => rfl
   have evf : ∀ f,a.eval (.func f) = .func (.func f) #[] #[] := fun _ => rfl
   clear hdep hout ho
   refine ob_val (.slice (some ⟨g,off,none⟩) E.length ec) ?_ rfl
   generalize a.eval = ev at *
   (go_simp; try rfl)
  focus
   intro o ho a wo hS hdep hout
   obtain rfl := Option.some.inj (show some (⟨some 32,.fieldAddr 52 (.tmp 10) 0,0,"law.go:77",#[],none⟩ : Oper) = some o from ho)
   have e10 : a.eval (.tmp 10) = .pointer (some ⟨w5'.heap.size,0,none⟩) := hout 10 rfl
   have evc : ∀ v,a.eval (.const v) = v := fun _ => rfl
   have evf : ∀ f,a.eval (.func f) = .func (.func f) #[] #[] := fun _ => rfl
   clear hdep hout ho
   refine ob_val (.pointer (some ⟨w5'.heap.size,0,none⟩)) ?_ rfl
   generalize a.eval = ev at *
   (go_simp; try rfl)
  focus
   intro o ho a wo hS hdep hout
   obtain rfl := Option.some.inj (show some (⟨some 33,.fieldAddr 48 (.tmp 32) 0,0,"law.go:77",#[⟨1,.data⟩],none⟩ : Oper) = some o from ho)
   have e32 : a.eval (.tmp 32) = .pointer (some ⟨w5'.heap.size,0,none⟩) := hdep 1 rfl
   have evc : ∀ v,a.eval (.const v) = v := fun _ => rfl
   have evf : ∀ f,a.eval (.func f) = .func (.func f) #[] #[] := fun _ => rfl
   clear hdep hout ho
   refine ob_val (.pointer (some ⟨w5'.heap.size,0,none⟩)) ?_ rfl
   generalize a.eval = ev at *
   (go_simp; try rfl)
  focus
   intro o ho a wo hS hdep hout
   obtain rfl := Option.some.inj (show some (⟨some 34,.load 3 (.tmp 33),3,"law.go:77",#[⟨2,.data⟩],none⟩ : Oper) = some o from ho)
   have e33 : a.eval (.tmp 33) = .pointer (some ⟨w5'.heap.size,0,none⟩) := hdep 2 rfl
   have evc : ∀ v,a.eval (.const v) = v := fun _ => rfl
   have evf : ∀ f,a.eval (.func f) = .func (.func f) #[] #[] := fun _ => rfl
   clear hdep hout ho
   refine ob_val (.int .i64 ((i : Int))) ?_ rfl
   generalize a.eval = ev at *
   exact (by have c := (N10.keep hS).cell 0; simp only [ecs,List.getElem?_toArray,List.getElem?_cons_zero,List.getElem?_cons_succ] at c; rw [hht] at c; go_simp; try rfl)
  focus
   intro o ho a wo hS hdep hout
   obtain rfl := Option.some.inj (show some (⟨some 35,.fieldAddr 29 (.tmp 5) 2,0,"law.go:77",#[],none⟩ : Oper) = some o from ho)
   have e5 : a.eval (.tmp 5) = .pointer (some ⟨w.heap.size + 1,0,none⟩) := hout 5 rfl
   have evc : ∀ v,a.eval (.const v) = v := fun _ => rfl
   have evf : ∀ f,a.eval (.func f) = .func (.func f) #[] #[] := fun _ => rfl
   clear hdep hout ho
   refine ob_val (.pointer (some ⟨w.heap.size + 1,2,none⟩)) ?_ rfl
   generalize a.eval = ev at *
   (go_simp; try rfl)
  focus
   intro o ho a wo hS hdep hout
   obtain rfl := Option.some.inj (show some (⟨some 36,.load 3 (.tmp 35),3,"law.go:77",#[⟨4,.data⟩],none⟩ : Oper) = some o from ho)
   have e35 : a.eval (.tmp 35) = .pointer (some ⟨w.heap.size + 1,2,none⟩) := hdep 4 rfl
   have evc : ∀ v,a.eval (.const v) = v := fun _ => rfl
   have evf : ∀ f,a.eval (.func f) = .func (.func f) #[] #[] := fun _ => rfl
   clear hdep hout ho
   refine ob_val (.int .i64 up) ?_ rfl
   generalize a.eval = ev at *
   exact (by have c := (N5.keep hS).cell 2; simp only [fkcs,List.getElem?_toArray,List.getElem?_cons_zero,List.getElem?_cons_succ] at c; go_simp; try rfl)
  focus
   intro o ho a wo hS hdep hout
   obtain rfl := Option.some.inj (show some (⟨some 37,.call { callee := .value (.func 9),args := #[.tmp 36,.const (Value.int IntKind.i64 2)],argTypes := #[3,3] },3,"law.go:77",#[⟨5,.data⟩],none⟩ : Oper) = some o from ho)
   have e36 : a.eval (.tmp 36) = .int .i64 up := hdep 5 rfl
   have evc : ∀ v,a.eval (.const v) = v := fun _ => rfl
   have evf : ∀ f,a.eval (.func f) = .func (.func f) #[] #[] := fun _ => rfl
   clear hdep hout ho
   refine ob_call ?_ (((show Calls _ _ _ wo fun e w2 => e = .returned (.int .i64 ((u2 : Int))) ∧ Below wo.heap.size wo w2 from (q2 wo).mono fun _ _ h => ⟨h.1,h.2 ▸ Below.refl _ _⟩)).mono fun _ _ h => ⟨_,h.1,h.2,rfl⟩)
   generalize a.eval = ev at *
   (go_simp; try rfl)
  focus
   intro o ho a wo hS hdep hout
   obtain rfl := Option.some.inj (show some (⟨some 38,.binOp BinOp.add 3 (.tmp 34) (.tmp 37) 3,3,"law.go:77",#[⟨3,.data⟩,⟨6,.data⟩],none⟩ : Oper) = some o from ho)
   have e34 : a.eval (.tmp 34) = .int .i64 ((i : Int)) := hdep 3 rfl
   have e37 : a.eval (.tmp 37) = .int .i64 ((u2 : Int)) := hdep 6 rfl
   have evc : ∀ v,a.eval (.const v) = v := fun _ => rfl
   have evf : ∀ f,a.eval (.func f) = .func (.func f) #[] #[] := fun _ => rfl
   clear hdep hout ho
   refine ob_val (.int .i64 ((i : Int) + (u2 : Int))) ?_ rfl
   generalize a.eval = ev at *
   (go_simp; try rfl)
  focus
   intro o ho a wo hS hdep hout
   obtain rfl := Option.some.inj (show some (⟨some 39,.move (.tmp 1),31,"law.go:77",#[],none⟩ : Oper) = some o from ho)
   have e1 : a.eval (.tmp 1) = .slice (some ⟨g,off,none⟩) E.length ec := hout 1 rfl
   have evc : ∀ v,a.eval (.const v) = v := fun _ => rfl
   have evf : ∀ f,a.eval (.func f) = .func (.func f) #[] #[] := fun _ => rfl
   clear hdep hout ho
   refine ob_val (.slice (some ⟨g,off,none⟩) E.length ec) ?_ rfl
   generalize a.eval = ev at *
   (go_simp; try rfl)
  focus
   intro o ho a wo hS hdep hout
   obtain rfl := Option.some.inj (show some (⟨some 40,.call { callee := .builtin Builtin.len,args := #[.tmp 39],argTypes := #[31] },3,"law.go:77",#[⟨8,.data⟩],none⟩ : Oper) = some o from ho)
   have e39 : a.eval (.tmp 39) = .slice (some ⟨g,off,none⟩) E.length ec := hdep 8 rfl
   have evc : ∀ v,a.eval (.const v) = v := fun _ => rfl
   have evf : ∀ f,a.eval (.func f) = .func (.func f) #[] #[] := fun _ => rfl
   clear hdep hout ho
   refine ob_val (.int .i64 ((E.length : Int))) ?_ rfl
   generalize a.eval = ev at *
   (go_simp; try rfl)
  focus
   intro o ho a wo hS hdep hout
   obtain rfl := Option.some.inj (show some (⟨some 41,.binOp BinOp.sub 3 (.tmp 40) (.const (Value.int IntKind.i64 1)) 3,3,"law.go:77",#[⟨9,.data⟩],none⟩ : Oper) = some o from ho)
   have e40 : a.eval (.tmp 40) = .int .i64 ((E.length : Int)) := hdep 9 rfl
   have evc : ∀ v,a.eval (.const v) = v := fun _ => rfl
   have evf : ∀ f,a.eval (.func f) = .func (.func f) #[] #[] := fun _ => rfl
   clear hdep hout ho
   refine ob_val (.int .i64 ((E.length : Int) - 1)) ?_ rfl
   generalize a.eval = ev at *
   (go_simp; try rfl)
  focus
   intro o ho a wo hS hdep hout
   obtain rfl := Option.some.inj (show some (⟨some 42,.call { callee := .builtin Builtin.min,args := #[.tmp 38,.tmp 41],argTypes := #[3,3] },3,"law.go:77",#[⟨7,.data⟩,⟨10,.data⟩],none⟩ : Oper) = some o from ho)
   have e38 : a.eval (.tmp 38) = .int .i64 ((i : Int) + (u2 : Int)) := hdep 7 rfl
   have e41 : a.eval (.tmp 41) = .int .i64 ((E.length : Int) - 1) := hdep 10 rfl
   have evc : ∀ v,a.eval (.const v) = v := fun _ => rfl
   have evf : ∀ f,a.eval (.func f) = .func (.func f) #[] #[] := fun _ => rfl
   clear hdep hout ho
   refine ob_val (.int .i64 ((j : Int))) ?_ rfl
   generalize a.eval = ev at *
   (go_simp; try rfl)
  focus
   intro o ho a wo hS hdep hout
   obtain rfl := Option.some.inj (show some (⟨some 43,.indexAddr 31 (.tmp 31) (.tmp 42),0,"law.go:77",#[⟨0,.data⟩,⟨11,.data⟩],none⟩ : Oper) = some o from ho)
   have e31 : a.eval (.tmp 31) = .slice (some ⟨g,off,none⟩) E.length ec := hdep 0 rfl
   have e42 : a.eval (.tmp 42) = .int .i64 ((j : Int)) := hdep 11 rfl
   have evc : ∀ v,a.eval (.const v) = v := fun _ => rfl
   have evf : ∀ f,a.eval (.func f) = .func (.func f) #[] #[] := fun _ => rfl
   clear hdep hout ho
   refine ob_val (.pointer (some ⟨g,off + j * 17,none⟩)) ?_ rfl
   generalize a.eval = ev at *
   (go_simp; try rfl)
  focus
   intro o ho a wo hS hdep hout
   obtain rfl := Option.some.inj (show some (⟨some 44,.load 52 (.tmp 43),52,"law.go:77",#[⟨12,.data⟩],none⟩ : Oper) = some o from ho)
   have e43 : a.eval (.tmp 43) = .pointer (some ⟨g,off + j * 17,none⟩) := hdep 12 rfl
   have evc : ∀ v,a.eval (.const v) = v := fun _ => rfl
   have evf : ∀ f,a.eval (.func f) = .func (.func f) #[] #[] := fun _ => rfl
   clear hdep hout ho
   refine ob_val (.agg (ecs q (.slice ka2 q.head.skips.length kc2) (.slice ia2 q.items.length ic2) (.slice sa2 q.set.length sc2) (.slice na2 q.next.length nc2)).toArray) ?_ rfl
   exact exec_rowR row_ent (.tmp 43) rfl e43 rfl (rg_keep HRG2.out hgw hS)
  focus
   intro o ho a wo hS hdep hout
   obtain rfl := Option.some.inj (show some (⟨some 11,.alloc 52,0,"law.go:77",#[],none⟩ : Oper) = some o from ho)
   have evc : ∀ v,a.eval (.const v) = v := fun _ => rfl
   have evf : ∀ f,a.eval (.func f) = .func (.func f) #[] #[] := fun _ => rfl
   clear hdep hout ho
   exact ob_new 52 _ (fun k => .pointer (some ⟨k,0,none⟩)) (by kernel_rfl) (fun k w' h1 h2 h3 => ⟨k,rfl,Nat.le_trans hS.size h1,Blk.of_heap h2 h3,_,h2⟩)
 have v0 : vals 0 = .slice (some ⟨g,off,none⟩) E.length ec := hv 0 (by omega)
 have v1 : vals 1 = .pointer (some ⟨w5'.heap.size,0,none⟩) := hv 1 (by omega)
 have v2 : vals 2 = .pointer (some ⟨w5'.heap.size,0,none⟩) := hv 2 (by omega)
 have v3 : vals 3 = .int .i64 ((i : Int)) := hv 3 (by omega)
 have v4 : vals 4 = .pointer (some ⟨w.heap.size + 1,2,none⟩) := hv 4 (by omega)
 have v5 : vals 5 = .int .i64 up := hv 5 (by omega)
 have v6 : vals 6 = .int .i64 ((u2 : Int)) := hv 6 (by omega)
 have v7 : vals 7 = .int .i64 ((i : Int) + (u2 : Int)) := hv 7 (by omega)
 have v8 : vals 8 = .slice (some ⟨g,off,none⟩) E.length ec := hv 8 (by omega)
 have v9 : vals 9 = .int .i64 ((E.length : Int)) := hv 9 (by omega)
 have v10 : vals 10 = .int .i64 ((E.length : Int) - 1) := hv 10 (by omega)
 have v11 : vals 11 = .int .i64 ((j : Int)) := hv 11 (by omega)
 have v12 : vals 12 = .pointer (some ⟨g,off + j * 17,none⟩) := hv 12 (by omega)
 have v13 : vals 13 = .agg (ecs q (.slice ka2 q.head.skips.length kc2) (.slice ia2 q.items.length ic2) (.slice sa2 q.set.length sc2) (.slice na2 q.next.length nc2)).toArray := hv 13 (by omega)
 have v14 : Pm.p (pmBlk w6.heap.size 52 (ecs entZ (.slice none 0 0) (.slice none 0 0) (.slice none 0 0) (.slice none 0 0)).toArray) wF (vals 14) := hv 14 (by omega)
 simp only [putD,Nat.zero_add,Nat.reduceAdd,v0,v1,v2,v3,v4,v5,v6,v7,v8,v9,v10,v11,v12,v13]
 clear v0 v1 v2 v3 v4 v5 v6 v7 v8 v9 v10 v11 v12 v13 hv
 try simp only [pna,pnb,pnc,pnd,pne]
 obtain ⟨k11,hk11,hkB11,KB,KT⟩ := v14
 rw [hk11]
 refine wp_rowST row_ent (.tmp 11) (.tmp 44) rfl rfl (vs := ecs q (.slice ka2 q.head.skips.length kc2) (.slice ia2 q.items.length ic2) (.slice sa2 q.set.length sc2) (.slice na2 q.next.length nc2)) rfl rfl (ecs_one _ _ _ _ _ _ _ _ _ _ _ _ _) (us := ecs entZ (.slice none 0 0) (.slice none 0 0) (.slice none 0 0) (.slice none 0 0)) rfl KB KT ?_
 intro w7 N11 T11 m7
 have hb67 : Below w6.heap.size w6 w7 := Below.mod hF m7 hF.size (by simpa using hkB11)
 have N3 := N3.keep hb67
 have N5 := N5.keep hb67
 have N10 := N10.keep hb67
 have T10 := T10.keep hb67
 have HN6 := Lib.hid (HN6.out.keep hb67)
 have HN7 := Lib.hid (HN7.out.keep hb67)
 have HTab := Lib.hid (HTab.out.keep hb67)
 have hb07 := hb06.trans (hb67.mono hb06.size)
 have HK67 : Hid (p4 < w6.heap.size ∧ p4 < w7.heap.size) := Lib.hid (by have h1 := HK10.out; have h2 := hk10w; have h3 := hb67.size; omega)
 have hk11lt := N11.lt
 clear KB KT hk11 m7 hF q2 a1 a2 hue HRG2 hgw
 go_upto_region 4 with fail
 have hchk : 1 ≤ S.length ∧ S.length ≤ 7 := by
  have := HE.out.chk
  simp only [chkM,Bool.and_eq_true,decide_eq_true_eq] at this
  omega
 have hps : p.set = S := hpi.st
 have hpn : p.next = S := hpi.ne
 have hsz7 := hb07.size
 have HN10 := Lib.hid N10
 have rH := ent_head N10
 have qN := fun (W : World) (hb : Below w7.heap.size w7 W) => named_any (.slice sa p.set.length sc) fa p.set la W (HAT.out.2.2.1.keep (hb07.trans (hb.mono hsz7))) (HFA.out.keep (hb07.trans (hb.mono hsz7))) (by rw [hps]; omega)
 have qM := fun (W : World) (hb : Below w7.heap.size w7 W) => HAT.out.2.2.2.keep (hb07.trans (hb.mono hsz7))
 simp only at qM
 have hfaf := HFA.out.form
 obtain ⟨fa1,fc1,hfa1⟩ := hfaf
 subst hfa1
 refine wp_region_inv2 rfl 20 ⟨none,.store 42 (.tmp 12) (.tmp 63),0,"law.go:78",#[⟨19,.data⟩,⟨18,.data⟩,⟨16,.chain⟩,⟨0,.phase⟩,⟨1,.phase⟩,⟨2,.phase⟩,⟨3,.phase⟩,⟨4,.phase⟩,⟨5,.phase⟩,⟨6,.phase⟩,⟨7,.phase⟩,⟨8,.phase⟩,⟨9,.phase⟩,⟨10,.phase⟩,⟨11,.phase⟩,⟨12,.phase⟩,⟨13,.phase⟩,⟨14,.phase⟩,⟨15,.phase⟩,⟨16,.phase⟩,⟨17,.phase⟩,⟨18,.phase⟩,⟨19,.phase⟩],none⟩ rfl (by kernel_rfl) [45,46,47,48,49,50,51,52,53,54,55,56,57,58,59,60,61,62,63,12] (by kernel_rfl) [.eq (.pointer (some ⟨w5'.heap.size,0,none⟩)),.eq (.pointer (some ⟨w5'.heap.size,0,none⟩)),.eq (.int .i64 ((i : Int))),.eq (.pointer (some ⟨w5'.heap.size,0,none⟩)),.eq (.agg (hcs p.head (.slice ka p.head.skips.length kc)).toArray),pmHd w7.heap.size p.head (.slice ka p.head.skips.length kc),pmE0,.eq (.pointer (some ⟨w5'.heap.size,16,none⟩)),.eq (.slice na p.next.length nc),pmM w7.heap.size p.next,.eq (.pointer (some ⟨w5'.heap.size,11,none⟩)),.eq (.string ⟨List.toArray p.sum⟩),.eq (.pointer (some ⟨w5'.heap.size,15,none⟩)),.eq (.slice sa p.set.length sc),.eq (.pointer (some ⟨w.heap.size + 1,3,none⟩)),.eq (.slice fa1 la.length fc1),pmS w7.heap.size (namedL p.set la p.set.length),pmCt w7.heap.size p.sum (namedL p.set la p.set.length),pmAns w7.heap.size (i : Int) p.head (.slice ka p.head.skips.length kc) p.next p.sum (namedL p.set la p.set.length),pmBlk w7.heap.size 42 (acs 0 (.slice none 0 0) (.slice none 0 0) [] (.slice none 0 0)).toArray] (fun i hi => ?_) (fun vals wF hF hv => ?_)
 focus
  obtain rfl | rfl | rfl | rfl | rfl | rfl | rfl | rfl | rfl | rfl | rfl | rfl | rfl | rfl | rfl | rfl | rfl | rfl | rfl | rfl : i = 0 ∨ i = 1 ∨ i = 2 ∨ i = 3 ∨ i = 4 ∨ i = 5 ∨ i = 6 ∨ i = 7 ∨ i = 8 ∨ i = 9 ∨ i = 10 ∨ i = 11 ∨ i = 12 ∨ i = 13 ∨ i = 14 ∨ i = 15 ∨ i = 16 ∨ i = 17 ∨ i = 18 ∨ i = 19 := by omega
  focus
   intro o ho a wo hS hdep hout
   obtain rfl := Option.some.inj (show some (⟨some 45,.fieldAddr 52 (.tmp 10) 0,0,"law.go:78",#[],none⟩ : Oper) = some o from ho)
   have e10 : a.eval (.tmp 10) = .pointer (some ⟨w5'.heap.size,0,none⟩) := hout 10 rfl
   have evc : ∀ v,a.eval (.const v) = v := fun _ => rfl
   have evf : ∀ f,a.eval (.func f) = .func (.func f) #[] #[] := fun _ => rfl
   clear hdep hout ho
   refine ob_val (.pointer (some ⟨w5'.heap.size,0,none⟩)) ?_ rfl
   generalize a.eval = ev at *
   (go_simp; try rfl)
  focus
   intro o ho a wo hS hdep hout
   obtain rfl := Option.some.inj (show some (⟨some 46,.fieldAddr 48 (.tmp 45) 0,0,"law.go:78",#[⟨0,.data⟩],none⟩ : Oper) = some o from ho)
   have e45 : a.eval (.tmp 45) = .pointer (some ⟨w5'.heap.size,0,none⟩) := hdep 0 rfl
   have evc : ∀ v,a.eval (.const v) = v := fun _ => rfl
   have evf : ∀ f,a.eval (.func f) = .func (.func f) #[] #[] := fun _ => rfl
   clear hdep hout ho
   refine ob_val (.pointer (some ⟨w5'.heap.size,0,none⟩)) ?_ rfl
   generalize a.eval = ev at *
   (go_simp; try rfl)
  focus
   intro o ho a wo hS hdep hout
   obtain rfl := Option.some.inj (show some (⟨some 47,.load 3 (.tmp 46),3,"law.go:78",#[⟨1,.data⟩],none⟩ : Oper) = some o from ho)
   have e46 : a.eval (.tmp 46) = .pointer (some ⟨w5'.heap.size,0,none⟩) := hdep 1 rfl
   have evc : ∀ v,a.eval (.const v) = v := fun _ => rfl
   have evf : ∀ f,a.eval (.func f) = .func (.func f) #[] #[] := fun _ => rfl
   clear hdep hout ho
   refine ob_val (.int .i64 ((i : Int))) ?_ rfl
   generalize a.eval = ev at *
   exact (by have c := (N10.keep hS).cell 0; simp only [ecs,List.getElem?_toArray,List.getElem?_cons_zero,List.getElem?_cons_succ] at c; rw [hht] at c; go_simp; try rfl)
  focus
   intro o ho a wo hS hdep hout
   obtain rfl := Option.some.inj (show some (⟨some 48,.fieldAddr 52 (.tmp 10) 0,0,"law.go:78",#[],none⟩ : Oper) = some o from ho)
   have e10 : a.eval (.tmp 10) = .pointer (some ⟨w5'.heap.size,0,none⟩) := hout 10 rfl
   have evc : ∀ v,a.eval (.const v) = v := fun _ => rfl
   have evf : ∀ f,a.eval (.func f) = .func (.func f) #[] #[] := fun _ => rfl
   clear hdep hout ho
   refine ob_val (.pointer (some ⟨w5'.heap.size,0,none⟩)) ?_ rfl
   generalize a.eval = ev at *
   (go_simp; try rfl)
  focus
   intro o ho a wo hS hdep hout
   obtain rfl := Option.some.inj (show some (⟨some 49,.load 48 (.tmp 48),48,"law.go:78",#[⟨3,.data⟩],none⟩ : Oper) = some o from ho)
   have e48 : a.eval (.tmp 48) = .pointer (some ⟨w5'.heap.size,0,none⟩) := hdep 3 rfl
   have evc : ∀ v,a.eval (.const v) = v := fun _ => rfl
   have evf : ∀ f,a.eval (.func f) = .func (.func f) #[] #[] := fun _ => rfl
   clear hdep hout ho
   refine ob_val (.agg (hcs p.head (.slice ka p.head.skips.length kc)).toArray) ?_ rfl
   exact exec_rowR row_head (.tmp 48) rfl e48 rfl (rg_keep rH N10.lt hS)
  focus
   intro o ho a wo hS hdep hout
   obtain rfl := Option.some.inj (show some (⟨some 50,.buildSlice 35 1 #[(0,.tmp 49)],35,"law.go:78",#[⟨4,.data⟩],none⟩ : Oper) = some o from ho)
   have e49 : a.eval (.tmp 49) = .agg (hcs p.head (.slice ka p.head.skips.length kc)).toArray := hdep 4 rfl
   have evc : ∀ v,a.eval (.const v) = v := fun _ => rfl
   have evf : ∀ f,a.eval (.func f) = .func (.func f) #[] #[] := fun _ => rfl
   clear hdep hout ho
   refine ob_new 48 (hcs p.head (.slice ka p.head.skips.length kc)).toArray (fun k => .slice (some ⟨k,0,none⟩) 1 1) ?_ (fun k w' h1 h2 h3 => ⟨k,rfl,Nat.le_trans hS.size h1,Blk.of_heap h2 h3,_,h2⟩)
   unfold execOp
   simp only [List.map_toArray,List.map_cons,List.map_nil,e49]
   kernel_rfl
  focus
   intro o ho a wo hS hdep hout
   obtain rfl := Option.some.inj (show some (⟨some 51,.buildSlice 23 0 #[],23,"law.go:78",#[],none⟩ : Oper) = some o from ho)
   have evc : ∀ v,a.eval (.const v) = v := fun _ => rfl
   have evf : ∀ f,a.eval (.func f) = .func (.func f) #[] #[] := fun _ => rfl
   clear hdep hout ho
   refine ob_new 77 #[] (fun k => .slice (some ⟨k,0,none⟩) 0 0) ?_ (fun k w' h1 h2 h3 => ⟨k,rfl⟩)
   generalize a.eval = ev at *
   (go_simp; try rfl)
  focus
   intro o ho a wo hS hdep hout
   obtain rfl := Option.some.inj (show some (⟨some 52,.fieldAddr 52 (.tmp 10) 6,0,"law.go:78",#[],none⟩ : Oper) = some o from ho)
   have e10 : a.eval (.tmp 10) = .pointer (some ⟨w5'.heap.size,0,none⟩) := hout 10 rfl
   have evc : ∀ v,a.eval (.const v) = v := fun _ => rfl
   have evf : ∀ f,a.eval (.func f) = .func (.func f) #[] #[] := fun _ => rfl
   clear hdep hout ho
   refine ob_val (.pointer (some ⟨w5'.heap.size,16,none⟩)) ?_ rfl
   generalize a.eval = ev at *
   (go_simp; try rfl)
  focus
   intro o ho a wo hS hdep hout
   obtain rfl := Option.some.inj (show some (⟨some 53,.load 23 (.tmp 52),23,"law.go:78",#[⟨7,.data⟩],none⟩ : Oper) = some o from ho)
   have e52 : a.eval (.tmp 52) = .pointer (some ⟨w5'.heap.size,16,none⟩) := hdep 7 rfl
   have evc : ∀ v,a.eval (.const v) = v := fun _ => rfl
   have evf : ∀ f,a.eval (.func f) = .func (.func f) #[] #[] := fun _ => rfl
   clear hdep hout ho
   refine ob_val (.slice na p.next.length nc) ?_ rfl
   generalize a.eval = ev at *
   exact (by have c := (N10.keep hS).cell 16; simp only [ecs,List.getElem?_toArray,List.getElem?_cons_zero,List.getElem?_cons_succ] at c; go_simp; try rfl)
  focus
   intro o ho a wo hS hdep hout
   obtain rfl := Option.some.inj (show some (⟨some 54,.call { callee := .builtin Builtin.append,args := #[.tmp 51,.tmp 53],argTypes := #[23,23] },23,"law.go:78",#[⟨6,.data⟩,⟨8,.data⟩],none⟩ : Oper) = some o from ho)
   have d51 : Pm.p (pmE0) wo (a.eval (.tmp 51)) := hdep 6 rfl
   have e53 : a.eval (.tmp 53) = .slice na p.next.length nc := hdep 8 rfl
   have evc : ∀ v,a.eval (.const v) = v := fun _ => rfl
   have evf : ∀ f,a.eval (.func f) = .func (.func f) #[] #[] := fun _ => rfl
   clear hdep hout ho
   obtain ⟨k51,hk51⟩ := d51
   exact ob_appM0 (.tmp 51) (.tmp 53) rfl w7.heap.size k51 hk51 p.next na nc e53 (qM wo hS) (fun e => by rw [hpn] at e; rw [e] at hchk; simp at hchk) (by rw [hpn]; omega) hS.size
  focus
   intro o ho a wo hS hdep hout
   obtain rfl := Option.some.inj (show some (⟨some 55,.fieldAddr 52 (.tmp 10) 1,0,"law.go:78",#[],none⟩ : Oper) = some o from ho)
   have e10 : a.eval (.tmp 10) = .pointer (some ⟨w5'.heap.size,0,none⟩) := hout 10 rfl
   have evc : ∀ v,a.eval (.const v) = v := fun _ => rfl
   have evf : ∀ f,a.eval (.func f) = .func (.func f) #[] #[] := fun _ => rfl
   clear hdep hout ho
   refine ob_val (.pointer (some ⟨w5'.heap.size,11,none⟩)) ?_ rfl
   generalize a.eval = ev at *
   (go_simp; try rfl)
  focus
   intro o ho a wo hS hdep hout
   obtain rfl := Option.some.inj (show some (⟨some 56,.load 9 (.tmp 55),9,"law.go:78",#[⟨10,.data⟩],none⟩ : Oper) = some o from ho)
   have e55 : a.eval (.tmp 55) = .pointer (some ⟨w5'.heap.size,11,none⟩) := hdep 10 rfl
   have evc : ∀ v,a.eval (.const v) = v := fun _ => rfl
   have evf : ∀ f,a.eval (.func f) = .func (.func f) #[] #[] := fun _ => rfl
   clear hdep hout ho
   refine ob_val (.string ⟨List.toArray p.sum⟩) ?_ rfl
   generalize a.eval = ev at *
   exact (by have c := (N10.keep hS).cell 11; simp only [ecs,List.getElem?_toArray,List.getElem?_cons_zero,List.getElem?_cons_succ] at c; go_simp; try rfl)
  focus
   intro o ho a wo hS hdep hout
   obtain rfl := Option.some.inj (show some (⟨some 57,.fieldAddr 52 (.tmp 10) 5,0,"law.go:78",#[],none⟩ : Oper) = some o from ho)
   have e10 : a.eval (.tmp 10) = .pointer (some ⟨w5'.heap.size,0,none⟩) := hout 10 rfl
   have evc : ∀ v,a.eval (.const v) = v := fun _ => rfl
   have evf : ∀ f,a.eval (.func f) = .func (.func f) #[] #[] := fun _ => rfl
   clear hdep hout ho
   refine ob_val (.pointer (some ⟨w5'.heap.size,15,none⟩)) ?_ rfl
   generalize a.eval = ev at *
   (go_simp; try rfl)
  focus
   intro o ho a wo hS hdep hout
   obtain rfl := Option.some.inj (show some (⟨some 58,.load 23 (.tmp 57),23,"law.go:78",#[⟨12,.data⟩],none⟩ : Oper) = some o from ho)
   have e57 : a.eval (.tmp 57) = .pointer (some ⟨w5'.heap.size,15,none⟩) := hdep 12 rfl
   have evc : ∀ v,a.eval (.const v) = v := fun _ => rfl
   have evf : ∀ f,a.eval (.func f) = .func (.func f) #[] #[] := fun _ => rfl
   clear hdep hout ho
   refine ob_val (.slice sa p.set.length sc) ?_ rfl
   generalize a.eval = ev at *
   exact (by have c := (N10.keep hS).cell 15; simp only [ecs,List.getElem?_toArray,List.getElem?_cons_zero,List.getElem?_cons_succ] at c; go_simp; try rfl)
  focus
   intro o ho a wo hS hdep hout
   obtain rfl := Option.some.inj (show some (⟨some 59,.fieldAddr 29 (.tmp 5) 3,0,"law.go:78",#[],none⟩ : Oper) = some o from ho)
   have e5 : a.eval (.tmp 5) = .pointer (some ⟨w.heap.size + 1,0,none⟩) := hout 5 rfl
   have evc : ∀ v,a.eval (.const v) = v := fun _ => rfl
   have evf : ∀ f,a.eval (.func f) = .func (.func f) #[] #[] := fun _ => rfl
   clear hdep hout ho
   refine ob_val (.pointer (some ⟨w.heap.size + 1,3,none⟩)) ?_ rfl
   generalize a.eval = ev at *
   (go_simp; try rfl)
  focus
   intro o ho a wo hS hdep hout
   obtain rfl := Option.some.inj (show some (⟨some 60,.load 27 (.tmp 59),27,"law.go:78",#[⟨14,.data⟩],none⟩ : Oper) = some o from ho)
   have e59 : a.eval (.tmp 59) = .pointer (some ⟨w.heap.size + 1,3,none⟩) := hdep 14 rfl
   have evc : ∀ v,a.eval (.const v) = v := fun _ => rfl
   have evf : ∀ f,a.eval (.func f) = .func (.func f) #[] #[] := fun _ => rfl
   clear hdep hout ho
   refine ob_val (.slice fa1 la.length fc1) ?_ rfl
   generalize a.eval = ev at *
   exact (by have c := (N5.keep hS).cell 3; simp only [fkcs,List.getElem?_toArray,List.getElem?_cons_zero,List.getElem?_cons_succ] at c; go_simp; try rfl)
  focus
   intro o ho a wo hS hdep hout
   obtain rfl := Option.some.inj (show some (⟨some 61,.call { callee := .value (.func 32),args := #[.tmp 58,.tmp 60],argTypes := #[23,27] },24,"law.go:78",#[⟨13,.data⟩,⟨15,.data⟩,⟨9,.chain⟩],none⟩ : Oper) = some o from ho)
   have e58 : a.eval (.tmp 58) = .slice sa p.set.length sc := hdep 13 rfl
   have e60 : a.eval (.tmp 60) = .slice fa1 la.length fc1 := hdep 15 rfl
   have evc : ∀ v,a.eval (.const v) = v := fun _ => rfl
   have evf : ∀ f,a.eval (.func f) = .func (.func f) #[] #[] := fun _ => rfl
   clear hdep hout ho
   refine ob_call ?_ ((qN wo hS).mono fun e w2 h => (by obtain ⟨u,h1,h2,h3⟩ := h; exact ⟨u,h1,h3,SRow.low h2 hS.size⟩))
   generalize a.eval = ev at *
   (go_simp; try rfl)
  focus
   intro o ho a wo hS hdep hout
   obtain rfl := Option.some.inj (show some (⟨some 62,.build 37 #[(0,.tmp 56),(1,.tmp 61)],37,"law.go:78",#[⟨11,.data⟩,⟨16,.data⟩],none⟩ : Oper) = some o from ho)
   have e56 : a.eval (.tmp 56) = .string ⟨List.toArray p.sum⟩ := hdep 11 rfl
   have d61 : Pm.p (pmS w7.heap.size (namedL p.set la p.set.length)) wo (a.eval (.tmp 61)) := hdep 16 rfl
   have evc : ∀ v,a.eval (.const v) = v := fun _ => rfl
   have evf : ∀ f,a.eval (.func f) = .func (.func f) #[] #[] := fun _ => rfl
   clear hdep hout ho
   obtain ⟨a61,c61,f61⟩ := SRow.form d61
   refine ob_val (.agg #[.string ⟨List.toArray p.sum⟩,.slice a61 (namedL p.set la p.set.length).length c61]) ?_ ⟨_,rfl,f61 ▸ d61⟩
   generalize a.eval = ev at *
   (go_simp; try rfl)
  focus
   intro o ho a wo hS hdep hout
   obtain rfl := Option.some.inj (show some (⟨some 63,.build 42 #[(1,.tmp 47),(2,.tmp 50),(4,.tmp 54),(5,.tmp 62)],42,"law.go:78",#[⟨2,.data⟩,⟨5,.data⟩,⟨9,.data⟩,⟨17,.data⟩],none⟩ : Oper) = some o from ho)
   have e47 : a.eval (.tmp 47) = .int .i64 ((i : Int)) := hdep 2 rfl
   have d50 : Pm.p (pmHd w7.heap.size p.head (.slice ka p.head.skips.length kc)) wo (a.eval (.tmp 50)) := hdep 5 rfl
   have d54 : Pm.p (pmM w7.heap.size p.next) wo (a.eval (.tmp 54)) := hdep 9 rfl
   have d62 : Pm.p (pmCt w7.heap.size p.sum (namedL p.set la p.set.length)) wo (a.eval (.tmp 62)) := hdep 17 rfl
   have evc : ∀ v,a.eval (.const v) = v := fun _ => rfl
   have evf : ∀ f,a.eval (.func f) = .func (.func f) #[] #[] := fun _ => rfl
   clear hdep hout ho
   obtain ⟨u62,e62,s62⟩ := d62
   obtain ⟨a61,c61,f61⟩ := SRow.form s62
   obtain ⟨a54,c54,f54⟩ := MRow.form d54
   obtain ⟨k50,f50,g50⟩ := d50
   subst f61
   refine ob_val (.agg (acs (i : Int) (.slice (some ⟨k50,0,none⟩) 1 1) (.slice a54 p.next.length c54) p.sum (.slice a61 (namedL p.set la p.set.length).length c61)).toArray) ?_ ⟨_,_,_,rfl,⟨k50,rfl,g50⟩,f54 ▸ d54,s62⟩
   generalize a.eval = ev at *
   (go_simp; try rfl)
  focus
   intro o ho a wo hS hdep hout
   obtain rfl := Option.some.inj (show some (⟨some 12,.alloc 42,0,"law.go:78",#[],none⟩ : Oper) = some o from ho)
   have evc : ∀ v,a.eval (.const v) = v := fun _ => rfl
   have evf : ∀ f,a.eval (.func f) = .func (.func f) #[] #[] := fun _ => rfl
   clear hdep hout ho
   exact ob_new 42 _ (fun k => .pointer (some ⟨k,0,none⟩)) (by kernel_rfl) (fun k w' h1 h2 h3 => ⟨k,rfl,Nat.le_trans hS.size h1,Blk.of_heap h2 h3,_,h2⟩)
 have v0 : vals 0 = .pointer (some ⟨w5'.heap.size,0,none⟩) := hv 0 (by omega)
 have v1 : vals 1 = .pointer (some ⟨w5'.heap.size,0,none⟩) := hv 1 (by omega)
 have v2 : vals 2 = .int .i64 ((i : Int)) := hv 2 (by omega)
 have v3 : vals 3 = .pointer (some ⟨w5'.heap.size,0,none⟩) := hv 3 (by omega)
 have v4 : vals 4 = .agg (hcs p.head (.slice ka p.head.skips.length kc)).toArray := hv 4 (by omega)
 have v5 : Pm.p (pmHd w7.heap.size p.head (.slice ka p.head.skips.length kc)) wF (vals 5) := hv 5 (by omega)
 have v6 : Pm.p (pmE0) wF (vals 6) := hv 6 (by omega)
 have v7 : vals 7 = .pointer (some ⟨w5'.heap.size,16,none⟩) := hv 7 (by omega)
 have v8 : vals 8 = .slice na p.next.length nc := hv 8 (by omega)
 have v9 : Pm.p (pmM w7.heap.size p.next) wF (vals 9) := hv 9 (by omega)
 have v10 : vals 10 = .pointer (some ⟨w5'.heap.size,11,none⟩) := hv 10 (by omega)
 have v11 : vals 11 = .string ⟨List.toArray p.sum⟩ := hv 11 (by omega)
 have v12 : vals 12 = .pointer (some ⟨w5'.heap.size,15,none⟩) := hv 12 (by omega)
 have v13 : vals 13 = .slice sa p.set.length sc := hv 13 (by omega)
 have v14 : vals 14 = .pointer (some ⟨w.heap.size + 1,3,none⟩) := hv 14 (by omega)
 have v15 : vals 15 = .slice fa1 la.length fc1 := hv 15 (by omega)
 have v16 : Pm.p (pmS w7.heap.size (namedL p.set la p.set.length)) wF (vals 16) := hv 16 (by omega)
 have v17 : Pm.p (pmCt w7.heap.size p.sum (namedL p.set la p.set.length)) wF (vals 17) := hv 17 (by omega)
 have v18 : Pm.p (pmAns w7.heap.size (i : Int) p.head (.slice ka p.head.skips.length kc) p.next p.sum (namedL p.set la p.set.length)) wF (vals 18) := hv 18 (by omega)
 have v19 : Pm.p (pmBlk w7.heap.size 42 (acs 0 (.slice none 0 0) (.slice none 0 0) [] (.slice none 0 0)).toArray) wF (vals 19) := hv 19 (by omega)
 simp only [putD,Nat.zero_add,Nat.reduceAdd,v0,v1,v2,v3,v4,v7,v8,v10,v11,v12,v13,v14,v15]
 clear v0 v1 v2 v3 v4 v7 v8 v10 v11 v12 v13 v14 v15 hv
 try simp only [pna,pnb,pnc,pnd,pne]
 obtain ⟨hv1,nv1,sg1,hv18,hA1⟩ := v18
 obtain ⟨k12,hk12,hkB12,KB,KT⟩ := v19
 rw [hk12,hv18]
 refine wp_rowST row_ans (.tmp 12) (.tmp 63) rfl rfl (vs := acs (i : Int) hv1 nv1 p.sum sg1) rfl rfl hA1.one (us := acs 0 (.slice none 0 0) (.slice none 0 0) [] (.slice none 0 0)) rfl KB KT ?_
 intro w8 N12 T12 m8
 have hb78 : Below w7.heap.size w7 w8 := Below.mod hF m8 hF.size (by simpa using hkB12)
 have HA1 := Lib.hid (hA1.modT m8 KT (by decide) (by decide) (by decide))
 have N3 := N3.keep hb78
 have N5 := N5.keep hb78
 have N11 := N11.keep hb78
 have T11 := T11.keep hb78
 have HN10 := Lib.hid (HN10.out.keep hb78)
 have T10 := T10.keep hb78
 have HN6 := Lib.hid (HN6.out.keep hb78)
 have HN7 := Lib.hid (HN7.out.keep hb78)
 have HTab := Lib.hid (HTab.out.keep hb78)
 have hb08 := hb07.trans (hb78.mono hb07.size)
 have HK8 : Hid (p4 < w8.heap.size) := Lib.hid (by have h1 := HK67.out.2; have h3 := hb78.size; omega)
 clear KB KT hk12 hv18 m8 hF hA1 v5 v6 v9 v16 v17 rH qN qM N10
 have rH := ent_head N11
 go_upto_region 6 with (first
  | (refine wpList_rowR row_head rfl (.tmp 64) rfl rfl (vs := hcs q.head (.slice ka2 q.head.skips.length kc2)) rfl rH ?_)
  | (refine wpList_rowStoreT row_head rfl rfl (.tmp 13) (.tmp 65) rfl rfl (vs := hcs q.head (.slice ka2 q.head.skips.length kc2)) rfl rfl (hcs_one _ _ _ _) (us := hcs hdZ (.slice none 0 0)) rfl (Blk.new' (by simp)) (Typ.new' rfl) ?_; intro w9 N13 T13 m9)
  | fail)
 have hb89 : Below w8.heap.size w8 w9 := Below.mod (Below.allocS (Below.refl _ _) _) m9 (by simp) (by simp)
 have HN3 := Lib.hid N3
 have HN5 := Lib.hid N5
 have N3 := N3.keep hb89
 have N5 := N5.keep hb89
 have HN11 := Lib.hid N11
 have HN12 := Lib.hid N12
 have hb09 := hb08.trans (hb89.mono hb08.size)
 have hk13 : w8.heap.size < w9.heap.size := N13.lt
 generalize hk13e : w8.heap.size = k13 at *
 have hqh : q.head.height = (j : Int) ∧ q.head.view = (j : Int) := by
  have := HE.out.all j hj2
  rw [List.getD_eq_getElem?_getD,hq] at this
  exact ⟨this.ht,this.vw⟩
 have HK13 := Lib.hid hk13e
 clear m9 rH N11 N12 hk13e
 have y1 := N5.cell 1
 have y2 := N13.cell 0
 simp only [fkcs,hcs,List.getElem?_toArray,List.getElem?_cons_zero,List.getElem?_cons_succ] at y1 y2
 rw [hqh.1] at y2
 go_cut [73] (fun s73 wx => ∃ c : Bool,s73 = .bool c ∧ wx = w9)
 case first =>
  by_cases hb0 : by_ = 0
  ·have g1 : (by_ != 0) = false := by simpa using hb0
   clear hb0
   go_wp2_with fail
   go_meet
   exact ⟨_,rfl,rfl⟩
  ·have g1 : (by_ != 0) = true := by simpa using hb0
   clear hb0
   go_wp2_with fail
   go_meet
   exact ⟨_,rfl,rfl⟩
 case rest =>
  obtain ⟨cc,rfl,rfl⟩ := hcut
  obtain ⟨w9,hw9⟩ : ∃ w',w' = wc := ⟨_,rfl⟩
  subst hw9
  have qv1 := fun W => below_any by_ 1000 (by decide) (by decide) W
  have qv2 := fun x W => below_any x 1048576 (by decide) (by decide) W
  have hv1l := modN_lt by_ 1000 (by decide)
  have y3 := N13.cell 2
  have y4 := N13.froz 2
  simp only [hcs,List.getElem?_toArray,List.getElem?_cons_zero,List.getElem?_cons_succ] at y3
  rw [hqh.2] at y3
  generalize modN by_ 1000 = u3 at *
  have a1 : IntKind.i64.wrap ((j : Int) + (u3 : Int)) = (j : Int) + (u3 : Int) := by rw [IntKind.wrap_i64]; omega
  go_upto_if 73 with fail
  go_cut [13] (fun s13 wx => s13 = .pointer (some ⟨k13,0,none⟩) ∧ ∃ vw : Int,Hid (Blk wx k13 (hcs { q.head with view := vw } (.slice ka2 q.head.skips.length kc2)).toArray) ∧ Typ wx k13 48 ∧ Below k13 w9 wx)
  case first =>
   cases cc
   ·go_wp2_with fail
    go_meet
    exact ⟨rfl,q.head.view,Lib.hid N13,T13,Below.refl _ _⟩
   ·go_wp2_with fail
    refine wp_region_inv2 rfl 8 ⟨none,.store 3 (.tmp 81) (.tmp 80),0,"law.go:81",#[⟨7,.data⟩,⟨6,.data⟩,⟨6,.chain⟩,⟨0,.phase⟩,⟨1,.phase⟩,⟨2,.phase⟩,⟨3,.phase⟩,⟨4,.phase⟩,⟨5,.phase⟩,⟨6,.phase⟩],none⟩ rfl (by kernel_rfl) [74,75,76,77,78,79,80,81] (by kernel_rfl) [.eq (.pointer (some ⟨k13,2,none⟩)),.eq (.int .i64 ((j : Int))),.eq (.pointer (some ⟨w.heap.size + 1,1,none⟩)),.eq (.int .i64 by_),.eq (.int .i64 ((u3 : Int))),.eq (.int .i64 ((j : Int) + (u3 : Int))),.eq (.int .i64 ((modN ((j : Int) + (u3 : Int)) 1048576 : Int))),.eq (.pointer (some ⟨k13,2,none⟩))] (fun i hi => ?_) (fun vals wF hF hv => ?_)
    focus
     obtain rfl | rfl | rfl | rfl | rfl | rfl | rfl | rfl : i = 0 ∨ i = 1 ∨ i = 2 ∨ i = 3 ∨ i = 4 ∨ i = 5 ∨ i = 6 ∨ i = 7 := by omega
     focus
      intro o ho a wo hS hdep hout
      obtain rfl := Option.some.inj (show some (⟨some 74,.fieldAddr 48 (.tmp 13) 2,0,"law.go:81",#[],none⟩ : Oper) = some o from ho)
      have e13 : a.eval (.tmp 13) = .pointer (some ⟨k13,0,none⟩) := hout 13 rfl
      have evc : ∀ v,a.eval (.const v) = v := fun _ => rfl
      have evf : ∀ f,a.eval (.func f) = .func (.func f) #[] #[] := fun _ => rfl
      clear hdep hout ho
      refine ob_val (.pointer (some ⟨k13,2,none⟩)) ?_ rfl
      generalize a.eval = ev at *
      (go_simp; try rfl)
     focus
      intro o ho a wo hS hdep hout
      obtain rfl := Option.some.inj (show some (⟨some 75,.load 3 (.tmp 74),3,"law.go:81",#[⟨0,.data⟩],none⟩ : Oper) = some o from ho)
      have e74 : a.eval (.tmp 74) = .pointer (some ⟨k13,2,none⟩) := hdep 0 rfl
      have evc : ∀ v,a.eval (.const v) = v := fun _ => rfl
      have evf : ∀ f,a.eval (.func f) = .func (.func f) #[] #[] := fun _ => rfl
      clear hdep hout ho
      refine ob_val (.int .i64 ((j : Int))) ?_ rfl
      generalize a.eval = ev at *
      exact (by have c := (N13.keep hS).cell 2; simp only [hcs,List.getElem?_toArray,List.getElem?_cons_zero,List.getElem?_cons_succ] at c; rw [hqh.2] at c; go_simp; try rfl)
     focus
      intro o ho a wo hS hdep hout
      obtain rfl := Option.some.inj (show some (⟨some 76,.fieldAddr 29 (.tmp 5) 1,0,"law.go:81",#[],none⟩ : Oper) = some o from ho)
      have e5 : a.eval (.tmp 5) = .pointer (some ⟨w.heap.size + 1,0,none⟩) := hout 5 rfl
      have evc : ∀ v,a.eval (.const v) = v := fun _ => rfl
      have evf : ∀ f,a.eval (.func f) = .func (.func f) #[] #[] := fun _ => rfl
      clear hdep hout ho
      refine ob_val (.pointer (some ⟨w.heap.size + 1,1,none⟩)) ?_ rfl
      generalize a.eval = ev at *
      (go_simp; try rfl)
     focus
      intro o ho a wo hS hdep hout
      obtain rfl := Option.some.inj (show some (⟨some 77,.load 3 (.tmp 76),3,"law.go:81",#[⟨2,.data⟩],none⟩ : Oper) = some o from ho)
      have e76 : a.eval (.tmp 76) = .pointer (some ⟨w.heap.size + 1,1,none⟩) := hdep 2 rfl
      have evc : ∀ v,a.eval (.const v) = v := fun _ => rfl
      have evf : ∀ f,a.eval (.func f) = .func (.func f) #[] #[] := fun _ => rfl
      clear hdep hout ho
      refine ob_val (.int .i64 by_) ?_ rfl
      generalize a.eval = ev at *
      exact (by have c := (N5.keep hS).cell 1; simp only [fkcs,List.getElem?_toArray,List.getElem?_cons_zero,List.getElem?_cons_succ] at c; go_simp; try rfl)
     focus
      intro o ho a wo hS hdep hout
      obtain rfl := Option.some.inj (show some (⟨some 78,.call { callee := .value (.func 9),args := #[.tmp 77,.const (Value.int IntKind.i64 1000)],argTypes := #[3,3] },3,"law.go:81",#[⟨3,.data⟩],none⟩ : Oper) = some o from ho)
      have e77 : a.eval (.tmp 77) = .int .i64 by_ := hdep 3 rfl
      have evc : ∀ v,a.eval (.const v) = v := fun _ => rfl
      have evf : ∀ f,a.eval (.func f) = .func (.func f) #[] #[] := fun _ => rfl
      clear hdep hout ho
      refine ob_call ?_ (((show Calls _ _ _ wo fun e w2 => e = .returned (.int .i64 ((u3 : Int))) ∧ Below wo.heap.size wo w2 from (qv1 wo).mono fun _ _ h => ⟨h.1,h.2 ▸ Below.refl _ _⟩)).mono fun _ _ h => ⟨_,h.1,h.2,rfl⟩)
      generalize a.eval = ev at *
      (go_simp; try rfl)
     focus
      intro o ho a wo hS hdep hout
      obtain rfl := Option.some.inj (show some (⟨some 79,.binOp BinOp.add 3 (.tmp 75) (.tmp 78) 3,3,"law.go:81",#[⟨1,.data⟩,⟨4,.data⟩],none⟩ : Oper) = some o from ho)
      have e75 : a.eval (.tmp 75) = .int .i64 ((j : Int)) := hdep 1 rfl
      have e78 : a.eval (.tmp 78) = .int .i64 ((u3 : Int)) := hdep 4 rfl
      have evc : ∀ v,a.eval (.const v) = v := fun _ => rfl
      have evf : ∀ f,a.eval (.func f) = .func (.func f) #[] #[] := fun _ => rfl
      clear hdep hout ho
      refine ob_val (.int .i64 ((j : Int) + (u3 : Int))) ?_ rfl
      generalize a.eval = ev at *
      (go_simp; try rfl)
     focus
      intro o ho a wo hS hdep hout
      obtain rfl := Option.some.inj (show some (⟨some 80,.call { callee := .value (.func 9),args := #[.tmp 79,.const (Value.int IntKind.i64 1048576)],argTypes := #[3,3] },3,"law.go:81",#[⟨5,.data⟩,⟨4,.chain⟩],none⟩ : Oper) = some o from ho)
      have e79 : a.eval (.tmp 79) = .int .i64 ((j : Int) + (u3 : Int)) := hdep 5 rfl
      have evc : ∀ v,a.eval (.const v) = v := fun _ => rfl
      have evf : ∀ f,a.eval (.func f) = .func (.func f) #[] #[] := fun _ => rfl
      clear hdep hout ho
      refine ob_call ?_ (((show Calls _ _ _ wo fun e w2 => e = .returned (.int .i64 ((modN ((j : Int) + (u3 : Int)) 1048576 : Int))) ∧ Below wo.heap.size wo w2 from (qv2 _ wo).mono fun _ _ h => ⟨h.1,h.2 ▸ Below.refl _ _⟩)).mono fun _ _ h => ⟨_,h.1,h.2,rfl⟩)
      generalize a.eval = ev at *
      (go_simp; try rfl)
     focus
      intro o ho a wo hS hdep hout
      obtain rfl := Option.some.inj (show some (⟨some 81,.fieldAddr 48 (.tmp 13) 2,0,"law.go:81",#[⟨0,.phase⟩,⟨1,.phase⟩,⟨2,.phase⟩,⟨3,.phase⟩,⟨4,.phase⟩,⟨5,.phase⟩,⟨6,.phase⟩],none⟩ : Oper) = some o from ho)
      have e13 : a.eval (.tmp 13) = .pointer (some ⟨k13,0,none⟩) := hout 13 rfl
      have evc : ∀ v,a.eval (.const v) = v := fun _ => rfl
      have evf : ∀ f,a.eval (.func f) = .func (.func f) #[] #[] := fun _ => rfl
      clear hdep hout ho
      refine ob_val (.pointer (some ⟨k13,2,none⟩)) ?_ rfl
      generalize a.eval = ev at *
      (go_simp; try rfl)
    have v0 : vals 0 = .pointer (some ⟨k13,2,none⟩) := hv 0 (by omega)
    have v1 : vals 1 = .int .i64 ((j : Int)) := hv 1 (by omega)
    have v2 : vals 2 = .pointer (some ⟨w.heap.size + 1,1,none⟩) := hv 2 (by omega)
    have v3 : vals 3 = .int .i64 by_ := hv 3 (by omega)
    have v4 : vals 4 = .int .i64 ((u3 : Int)) := hv 4 (by omega)
    have v5 : vals 5 = .int .i64 ((j : Int) + (u3 : Int)) := hv 5 (by omega)
    have v6 : vals 6 = .int .i64 ((modN ((j : Int) + (u3 : Int)) 1048576 : Int)) := hv 6 (by omega)
    have v7 : vals 7 = .pointer (some ⟨k13,2,none⟩) := hv 7 (by omega)
    simp only [putD,Nat.zero_add,Nat.reduceAdd,v0,v1,v2,v3,v4,v5,v6,v7]
    clear v0 v1 v2 v3 v4 v5 v6 v7 hv
    try simp only [pna,pnb,pnc,pnd,pne]
    have N13 := N13.keep hF
    have T13 := T13.keep hF
    have cf := N13.froz 2
    have cl := N13.lt
    have y9 := N13.cell 2
    simp only [hcs,List.getElem?_toArray,List.getElem?_cons_zero,List.getElem?_cons_succ] at y9
    generalize modN ((j : Int) + (u3 : Int)) 1048576 = u4 at *
    go_wp2_with fail
    go_meet
    exact ⟨rfl,(u4 : Int),Lib.hid (N13.set 2 (.int .i64 ((u4 : Int)))),T13.set _ _,Below.mod (hF.mono (Nat.le_of_lt hk13)) ((Mod.refl [k13] _).setCell (.inl (by simp)) _) (Nat.le_trans (Nat.le_of_lt hk13) hF.size) (by simp)⟩
  case rest =>
   obtain ⟨rfl,vw,HN13,T13,hbx⟩ := hcut
   obtain ⟨w10,hw10⟩ : ∃ w',w' = wc := ⟨_,rfl⟩
   subst hw10
   have hb810 : Below w8.heap.size w8 w10 := by rw [HK13.out]; exact hb89.trans hbx
   obtain ⟨qh,hqe⟩ : ∃ x,x = ({ q.head with view := vw } : Hd) := ⟨_,rfl⟩
   rw [← hqe] at HN13
   have hq1 : qh.height = (j : Int) := by rw [hqe]; exact hqh.1
   have hq2 : qh.skips = q.head.skips := by rw [hqe]
   have hq3 : qh.skips.length = q.head.skips.length := by rw [hqe]
   have HQE := Lib.hid hqe
   have N5 := HN5.out.keep hb810
   have HN3 := Lib.hid (HN3.out.keep hb810)
   have HA1 := Lib.hid (HA1.out.keep hb810)
   have N11 := HN11.out.keep hb810
   have T11 := T11.keep hb810
   have HN10 := Lib.hid (HN10.out.keep hb810)
   have T10 := T10.keep hb810
   have HN12 := Lib.hid (HN12.out.keep hb810)
   have T12 := T12.keep hb810
   have HN6 := Lib.hid (HN6.out.keep hb810)
   have HN7 := Lib.hid (HN7.out.keep hb810)
   have HTab := Lib.hid (HTab.out.keep hb810)
   have hb010 := hb08.trans (hb810.mono hb08.size)
   have HKA : Hid (p4 < w10.heap.size) := Lib.hid (by have h1 := HK8.out; have h3 := hb810.size; have h4 := HK13.out; omega)
   have hsz10 := hb010.size
   have N13 := HN13.out
   clear hbx hb810 y1 y2 y3 y4 qv1 qv2 hb89 N3 HN5 HN11 HN13 a1 hqh hqe hv1l hb09
   have hqi : EntI S q j := by
    have := HE.out.all j hj2
    rwa [List.getD_eq_getElem?_getD,hq] at this
   have hqs : q.set = S := hqi.st
   have hqn : q.next = S := hqi.ne
   have qN := fun (W : World) (hb : Below w10.heap.size w10 W) => named_any (.slice sa2 q.set.length sc2) fb q.set lb W (HAT2.out.2.2.1.keep (hb010.trans (hb.mono hsz10))) (HFB.out.keep (hb010.trans (hb.mono hsz10))) (by rw [hqs]; omega)
   have qM := fun (W : World) (hb : Below w10.heap.size w10 W) => HAT2.out.2.2.2.keep (hb010.trans (hb.mono hsz10))
   have qD : ∀ (W : World) (hb : Below w10.heap.size w10 W),Calls Tryz.prog 33 #[.agg (hcs qh (.slice ka2 q.head.skips.length kc2)).toArray] W fun e w' => e = .returned (.string ⟨List.toArray (dgH qh)⟩) ∧ Below W.heap.size W w' := by
    intro W hb
    have := rhd_digest qh.height qh.epoch qh.view qh.last qh.parent qh.state qh.receipts qh.txs qh.members qh.next qh.skips ka2 kc2 W (by rw [hq3,hq2]; exact HAT2.out.1.keep (hb010.trans (hb.mono hsz10)))
    rw [hq3] at this
    exact this
   simp only at qM
   have hfbf := HFB.out.form
   obtain ⟨fb1,fc2,hfb1⟩ := hfbf
   subst hfb1
   go_upto_region 8 with fail
   refine wp_region_inv2 rfl 18 ⟨none,.store 42 (.tmp 14) (.tmp 98),0,"law.go:83",#[⟨17,.data⟩,⟨16,.data⟩,⟨14,.chain⟩,⟨0,.phase⟩,⟨1,.phase⟩,⟨2,.phase⟩,⟨3,.phase⟩,⟨4,.phase⟩,⟨5,.phase⟩,⟨6,.phase⟩,⟨7,.phase⟩,⟨8,.phase⟩,⟨9,.phase⟩,⟨10,.phase⟩,⟨11,.phase⟩,⟨12,.phase⟩,⟨13,.phase⟩,⟨14,.phase⟩,⟨15,.phase⟩,⟨16,.phase⟩,⟨17,.phase⟩],none⟩ rfl (by kernel_rfl) [82,83,84,85,86,87,88,89,90,91,92,93,94,95,96,97,98,14] (by kernel_rfl) [.eq (.pointer (some ⟨k13,0,none⟩)),.eq (.int .i64 ((j : Int))),.eq (.agg (hcs qh (.slice ka2 q.head.skips.length kc2)).toArray),pmHd w10.heap.size qh (.slice ka2 q.head.skips.length kc2),pmE0,.eq (.pointer (some ⟨k11,16,none⟩)),.eq (.slice na2 q.next.length nc2),pmM w10.heap.size q.next,.eq (.agg (hcs qh (.slice ka2 q.head.skips.length kc2)).toArray),.eq (.string ⟨List.toArray (dgH qh)⟩),.eq (.pointer (some ⟨k11,15,none⟩)),.eq (.slice sa2 q.set.length sc2),.eq (.pointer (some ⟨w.heap.size + 1,4,none⟩)),.eq (.slice fb1 lb.length fc2),pmS w10.heap.size (namedL q.set lb q.set.length),pmCt w10.heap.size (dgH qh) (namedL q.set lb q.set.length),pmAns w10.heap.size (j : Int) qh (.slice ka2 q.head.skips.length kc2) q.next (dgH qh) (namedL q.set lb q.set.length),pmBlk w10.heap.size 42 (acs 0 (.slice none 0 0) (.slice none 0 0) [] (.slice none 0 0)).toArray] (fun i hi => ?_) (fun vals wF hF hv => ?_)
   focus
    obtain rfl | rfl | rfl | rfl | rfl | rfl | rfl | rfl | rfl | rfl | rfl | rfl | rfl | rfl | rfl | rfl | rfl | rfl : i = 0 ∨ i = 1 ∨ i = 2 ∨ i = 3 ∨ i = 4 ∨ i = 5 ∨ i = 6 ∨ i = 7 ∨ i = 8 ∨ i = 9 ∨ i = 10 ∨ i = 11 ∨ i = 12 ∨ i = 13 ∨ i = 14 ∨ i = 15 ∨ i = 16 ∨ i = 17 := by omega
    focus
     intro o ho a wo hS hdep hout
     obtain rfl := Option.some.inj (show some (⟨some 82,.fieldAddr 48 (.tmp 13) 0,0,"law.go:83",#[],none⟩ : Oper) = some o from ho)
     have e13 : a.eval (.tmp 13) = .pointer (some ⟨k13,0,none⟩) := hout 13 rfl
     have evc : ∀ v,a.eval (.const v) = v := fun _ => rfl
     have evf : ∀ f,a.eval (.func f) = .func (.func f) #[] #[] := fun _ => rfl
     clear hdep hout ho
     refine ob_val (.pointer (some ⟨k13,0,none⟩)) ?_ rfl
     generalize a.eval = ev at *
     (go_simp; try rfl)
    focus
     intro o ho a wo hS hdep hout
     obtain rfl := Option.some.inj (show some (⟨some 83,.load 3 (.tmp 82),3,"law.go:83",#[⟨0,.data⟩],none⟩ : Oper) = some o from ho)
     have e82 : a.eval (.tmp 82) = .pointer (some ⟨k13,0,none⟩) := hdep 0 rfl
     have evc : ∀ v,a.eval (.const v) = v := fun _ => rfl
     have evf : ∀ f,a.eval (.func f) = .func (.func f) #[] #[] := fun _ => rfl
     clear hdep hout ho
     refine ob_val (.int .i64 ((j : Int))) ?_ rfl
     generalize a.eval = ev at *
     exact (by have c := (N13.keep hS).cell 0; simp only [hcs,List.getElem?_toArray,List.getElem?_cons_zero,List.getElem?_cons_succ] at c; rw [hq1] at c; go_simp; try rfl)
    focus
     intro o ho a wo hS hdep hout
     obtain rfl := Option.some.inj (show some (⟨some 84,.load 48 (.tmp 13),48,"law.go:83",#[],none⟩ : Oper) = some o from ho)
     have e13 : a.eval (.tmp 13) = .pointer (some ⟨k13,0,none⟩) := hout 13 rfl
     have evc : ∀ v,a.eval (.const v) = v := fun _ => rfl
     have evf : ∀ f,a.eval (.func f) = .func (.func f) #[] #[] := fun _ => rfl
     clear hdep hout ho
     refine ob_val (.agg (hcs qh (.slice ka2 q.head.skips.length kc2)).toArray) ?_ rfl
     exact exec_rowR row_head (.tmp 13) rfl e13 rfl (N13.keep hS).range
    focus
     intro o ho a wo hS hdep hout
     obtain rfl := Option.some.inj (show some (⟨some 85,.buildSlice 35 1 #[(0,.tmp 84)],35,"law.go:83",#[⟨2,.data⟩],none⟩ : Oper) = some o from ho)
     have e84 : a.eval (.tmp 84) = .agg (hcs qh (.slice ka2 q.head.skips.length kc2)).toArray := hdep 2 rfl
     have evc : ∀ v,a.eval (.const v) = v := fun _ => rfl
     have evf : ∀ f,a.eval (.func f) = .func (.func f) #[] #[] := fun _ => rfl
     clear hdep hout ho
     refine ob_new 48 (hcs qh (.slice ka2 q.head.skips.length kc2)).toArray (fun k => .slice (some ⟨k,0,none⟩) 1 1) ?_ (fun k w' h1 h2 h3 => ⟨k,rfl,Nat.le_trans hS.size h1,Blk.of_heap h2 h3,_,h2⟩)
     unfold execOp
     simp only [List.map_toArray,List.map_cons,List.map_nil,e84]
     kernel_rfl
    focus
     intro o ho a wo hS hdep hout
     obtain rfl := Option.some.inj (show some (⟨some 86,.buildSlice 23 0 #[],23,"law.go:83",#[],none⟩ : Oper) = some o from ho)
     have evc : ∀ v,a.eval (.const v) = v := fun _ => rfl
     have evf : ∀ f,a.eval (.func f) = .func (.func f) #[] #[] := fun _ => rfl
     clear hdep hout ho
     refine ob_new 77 #[] (fun k => .slice (some ⟨k,0,none⟩) 0 0) ?_ (fun k w' h1 h2 h3 => ⟨k,rfl⟩)
     generalize a.eval = ev at *
     (go_simp; try rfl)
    focus
     intro o ho a wo hS hdep hout
     obtain rfl := Option.some.inj (show some (⟨some 87,.fieldAddr 52 (.tmp 11) 6,0,"law.go:83",#[],none⟩ : Oper) = some o from ho)
     have e11 : a.eval (.tmp 11) = .pointer (some ⟨k11,0,none⟩) := hout 11 rfl
     have evc : ∀ v,a.eval (.const v) = v := fun _ => rfl
     have evf : ∀ f,a.eval (.func f) = .func (.func f) #[] #[] := fun _ => rfl
     clear hdep hout ho
     refine ob_val (.pointer (some ⟨k11,16,none⟩)) ?_ rfl
     generalize a.eval = ev at *
     (go_simp; try rfl)
    focus
     intro o ho a wo hS hdep hout
     obtain rfl := Option.some.inj (show some (⟨some 88,.load 23 (.tmp 87),23,"law.go:83",#[⟨5,.data⟩],none⟩ : Oper) = some o from ho)
     have e87 : a.eval (.tmp 87) = .pointer (some ⟨k11,16,none⟩) := hdep 5 rfl
     have evc : ∀ v,a.eval (.const v) = v := fun _ => rfl
     have evf : ∀ f,a.eval (.func f) = .func (.func f) #[] #[] := fun _ => rfl
     clear hdep hout ho
     refine ob_val (.slice na2 q.next.length nc2) ?_ rfl
     generalize a.eval = ev at *
     exact (by have c := (N11.keep hS).cell 16; simp only [ecs,List.getElem?_toArray,List.getElem?_cons_zero,List.getElem?_cons_succ] at c; go_simp; try rfl)
    focus
     intro o ho a wo hS hdep hout
     obtain rfl := Option.some.inj (show some (⟨some 89,.call { callee := .builtin Builtin.append,args := #[.tmp 86,.tmp 88],argTypes := #[23,23] },23,"law.go:83",#[⟨4,.data⟩,⟨6,.data⟩],none⟩ : Oper) = some o from ho)
     have d86 : Pm.p (pmE0) wo (a.eval (.tmp 86)) := hdep 4 rfl
     have e88 : a.eval (.tmp 88) = .slice na2 q.next.length nc2 := hdep 6 rfl
     have evc : ∀ v,a.eval (.const v) = v := fun _ => rfl
     have evf : ∀ f,a.eval (.func f) = .func (.func f) #[] #[] := fun _ => rfl
     clear hdep hout ho
     obtain ⟨k86,hk86⟩ := d86
     exact ob_appM0 (.tmp 86) (.tmp 88) rfl w10.heap.size k86 hk86 q.next na2 nc2 e88 (qM wo hS) (fun e => by rw [hqn] at e; rw [e] at hchk; simp at hchk) (by rw [hqn]; omega) hS.size
    focus
     intro o ho a wo hS hdep hout
     obtain rfl := Option.some.inj (show some (⟨some 90,.load 48 (.tmp 13),48,"law.go:83",#[],none⟩ : Oper) = some o from ho)
     have e13 : a.eval (.tmp 13) = .pointer (some ⟨k13,0,none⟩) := hout 13 rfl
     have evc : ∀ v,a.eval (.const v) = v := fun _ => rfl
     have evf : ∀ f,a.eval (.func f) = .func (.func f) #[] #[] := fun _ => rfl
     clear hdep hout ho
     refine ob_val (.agg (hcs qh (.slice ka2 q.head.skips.length kc2)).toArray) ?_ rfl
     exact exec_rowR row_head (.tmp 13) rfl e13 rfl (N13.keep hS).range
    focus
     intro o ho a wo hS hdep hout
     obtain rfl := Option.some.inj (show some (⟨some 91,.call { callee := .value (.func 33),args := #[.tmp 90],argTypes := #[48] },9,"law.go:83",#[⟨8,.data⟩,⟨7,.chain⟩],none⟩ : Oper) = some o from ho)
     have e90 : a.eval (.tmp 90) = .agg (hcs qh (.slice ka2 q.head.skips.length kc2)).toArray := hdep 8 rfl
     have evc : ∀ v,a.eval (.const v) = v := fun _ => rfl
     have evf : ∀ f,a.eval (.func f) = .func (.func f) #[] #[] := fun _ => rfl
     clear hdep hout ho
     refine ob_call ?_ ((qD wo hS).mono fun _ _ h => ⟨_,h.1,h.2,rfl⟩)
     generalize a.eval = ev at *
     (go_simp; try rfl)
    focus
     intro o ho a wo hS hdep hout
     obtain rfl := Option.some.inj (show some (⟨some 92,.fieldAddr 52 (.tmp 11) 5,0,"law.go:83",#[],none⟩ : Oper) = some o from ho)
     have e11 : a.eval (.tmp 11) = .pointer (some ⟨k11,0,none⟩) := hout 11 rfl
     have evc : ∀ v,a.eval (.const v) = v := fun _ => rfl
     have evf : ∀ f,a.eval (.func f) = .func (.func f) #[] #[] := fun _ => rfl
     clear hdep hout ho
     refine ob_val (.pointer (some ⟨k11,15,none⟩)) ?_ rfl
     generalize a.eval = ev at *
     (go_simp; try rfl)
    focus
     intro o ho a wo hS hdep hout
     obtain rfl := Option.some.inj (show some (⟨some 93,.load 23 (.tmp 92),23,"law.go:83",#[⟨10,.data⟩],none⟩ : Oper) = some o from ho)
     have e92 : a.eval (.tmp 92) = .pointer (some ⟨k11,15,none⟩) := hdep 10 rfl
     have evc : ∀ v,a.eval (.const v) = v := fun _ => rfl
     have evf : ∀ f,a.eval (.func f) = .func (.func f) #[] #[] := fun _ => rfl
     clear hdep hout ho
     refine ob_val (.slice sa2 q.set.length sc2) ?_ rfl
     generalize a.eval = ev at *
     exact (by have c := (N11.keep hS).cell 15; simp only [ecs,List.getElem?_toArray,List.getElem?_cons_zero,List.getElem?_cons_succ] at c; go_simp; try rfl)
    focus
     intro o ho a wo hS hdep hout
     obtain rfl := Option.some.inj (show some (⟨some 94,.fieldAddr 29 (.tmp 5) 4,0,"law.go:83",#[],none⟩ : Oper) = some o from ho)
     have e5 : a.eval (.tmp 5) = .pointer (some ⟨w.heap.size + 1,0,none⟩) := hout 5 rfl
     have evc : ∀ v,a.eval (.const v) = v := fun _ => rfl
     have evf : ∀ f,a.eval (.func f) = .func (.func f) #[] #[] := fun _ => rfl
     clear hdep hout ho
     refine ob_val (.pointer (some ⟨w.heap.size + 1,4,none⟩)) ?_ rfl
     generalize a.eval = ev at *
     (go_simp; try rfl)
    focus
     intro o ho a wo hS hdep hout
     obtain rfl := Option.some.inj (show some (⟨some 95,.load 27 (.tmp 94),27,"law.go:83",#[⟨12,.data⟩],none⟩ : Oper) = some o from ho)
     have e94 : a.eval (.tmp 94) = .pointer (some ⟨w.heap.size + 1,4,none⟩) := hdep 12 rfl
     have evc : ∀ v,a.eval (.const v) = v := fun _ => rfl
     have evf : ∀ f,a.eval (.func f) = .func (.func f) #[] #[] := fun _ => rfl
     clear hdep hout ho
     refine ob_val (.slice fb1 lb.length fc2) ?_ rfl
     generalize a.eval = ev at *
     exact (by have c := (N5.keep hS).cell 4; simp only [fkcs,List.getElem?_toArray,List.getElem?_cons_zero,List.getElem?_cons_succ] at c; go_simp; try rfl)
    focus
     intro o ho a wo hS hdep hout
     obtain rfl := Option.some.inj (show some (⟨some 96,.call { callee := .value (.func 32),args := #[.tmp 93,.tmp 95],argTypes := #[23,27] },24,"law.go:83",#[⟨11,.data⟩,⟨13,.data⟩,⟨9,.chain⟩],none⟩ : Oper) = some o from ho)
     have e93 : a.eval (.tmp 93) = .slice sa2 q.set.length sc2 := hdep 11 rfl
     have e95 : a.eval (.tmp 95) = .slice fb1 lb.length fc2 := hdep 13 rfl
     have evc : ∀ v,a.eval (.const v) = v := fun _ => rfl
     have evf : ∀ f,a.eval (.func f) = .func (.func f) #[] #[] := fun _ => rfl
     clear hdep hout ho
     refine ob_call ?_ ((qN wo hS).mono fun e w2 h => (by obtain ⟨u,h1,h2,h3⟩ := h; exact ⟨u,h1,h3,SRow.low h2 hS.size⟩))
     generalize a.eval = ev at *
     (go_simp; try rfl)
    focus
     intro o ho a wo hS hdep hout
     obtain rfl := Option.some.inj (show some (⟨some 97,.build 37 #[(0,.tmp 91),(1,.tmp 96)],37,"law.go:83",#[⟨9,.data⟩,⟨14,.data⟩],none⟩ : Oper) = some o from ho)
     have e91 : a.eval (.tmp 91) = .string ⟨List.toArray (dgH qh)⟩ := hdep 9 rfl
     have d96 : Pm.p (pmS w10.heap.size (namedL q.set lb q.set.length)) wo (a.eval (.tmp 96)) := hdep 14 rfl
     have evc : ∀ v,a.eval (.const v) = v := fun _ => rfl
     have evf : ∀ f,a.eval (.func f) = .func (.func f) #[] #[] := fun _ => rfl
     clear hdep hout ho
     obtain ⟨a96,c96,f96⟩ := SRow.form d96
     refine ob_val (.agg #[.string ⟨List.toArray (dgH qh)⟩,.slice a96 (namedL q.set lb q.set.length).length c96]) ?_ ⟨_,rfl,f96 ▸ d96⟩
     generalize a.eval = ev at *
     (go_simp; try rfl)
    focus
     intro o ho a wo hS hdep hout
     obtain rfl := Option.some.inj (show some (⟨some 98,.build 42 #[(1,.tmp 83),(2,.tmp 85),(4,.tmp 89),(5,.tmp 97)],42,"law.go:83",#[⟨1,.data⟩,⟨3,.data⟩,⟨7,.data⟩,⟨15,.data⟩],none⟩ : Oper) = some o from ho)
     have e83 : a.eval (.tmp 83) = .int .i64 ((j : Int)) := hdep 1 rfl
     have d85 : Pm.p (pmHd w10.heap.size qh (.slice ka2 q.head.skips.length kc2)) wo (a.eval (.tmp 85)) := hdep 3 rfl
     have d89 : Pm.p (pmM w10.heap.size q.next) wo (a.eval (.tmp 89)) := hdep 7 rfl
     have d97 : Pm.p (pmCt w10.heap.size (dgH qh) (namedL q.set lb q.set.length)) wo (a.eval (.tmp 97)) := hdep 15 rfl
     have evc : ∀ v,a.eval (.const v) = v := fun _ => rfl
     have evf : ∀ f,a.eval (.func f) = .func (.func f) #[] #[] := fun _ => rfl
     clear hdep hout ho
     obtain ⟨u97,e97,s97⟩ := d97
     obtain ⟨a96,c96,f96⟩ := SRow.form s97
     obtain ⟨a89,c89,f89⟩ := MRow.form d89
     obtain ⟨k85,f85,g85⟩ := d85
     subst f96
     refine ob_val (.agg (acs (j : Int) (.slice (some ⟨k85,0,none⟩) 1 1) (.slice a89 q.next.length c89) (dgH qh) (.slice a96 (namedL q.set lb q.set.length).length c96)).toArray) ?_ ⟨_,_,_,rfl,⟨k85,rfl,g85⟩,f89 ▸ d89,s97⟩
     generalize a.eval = ev at *
     (go_simp; try rfl)
    focus
     intro o ho a wo hS hdep hout
     obtain rfl := Option.some.inj (show some (⟨some 14,.alloc 42,0,"law.go:83",#[],none⟩ : Oper) = some o from ho)
     have evc : ∀ v,a.eval (.const v) = v := fun _ => rfl
     have evf : ∀ f,a.eval (.func f) = .func (.func f) #[] #[] := fun _ => rfl
     clear hdep hout ho
     exact ob_new 42 _ (fun k => .pointer (some ⟨k,0,none⟩)) (by kernel_rfl) (fun k w' h1 h2 h3 => ⟨k,rfl,Nat.le_trans hS.size h1,Blk.of_heap h2 h3,_,h2⟩)
   have v0 : vals 0 = .pointer (some ⟨k13,0,none⟩) := hv 0 (by omega)
   have v1 : vals 1 = .int .i64 ((j : Int)) := hv 1 (by omega)
   have v2 : vals 2 = .agg (hcs qh (.slice ka2 q.head.skips.length kc2)).toArray := hv 2 (by omega)
   have v3 : Pm.p (pmHd w10.heap.size qh (.slice ka2 q.head.skips.length kc2)) wF (vals 3) := hv 3 (by omega)
   have v4 : Pm.p (pmE0) wF (vals 4) := hv 4 (by omega)
   have v5 : vals 5 = .pointer (some ⟨k11,16,none⟩) := hv 5 (by omega)
   have v6 : vals 6 = .slice na2 q.next.length nc2 := hv 6 (by omega)
   have v7 : Pm.p (pmM w10.heap.size q.next) wF (vals 7) := hv 7 (by omega)
   have v8 : vals 8 = .agg (hcs qh (.slice ka2 q.head.skips.length kc2)).toArray := hv 8 (by omega)
   have v9 : vals 9 = .string ⟨List.toArray (dgH qh)⟩ := hv 9 (by omega)
   have v10 : vals 10 = .pointer (some ⟨k11,15,none⟩) := hv 10 (by omega)
   have v11 : vals 11 = .slice sa2 q.set.length sc2 := hv 11 (by omega)
   have v12 : vals 12 = .pointer (some ⟨w.heap.size + 1,4,none⟩) := hv 12 (by omega)
   have v13 : vals 13 = .slice fb1 lb.length fc2 := hv 13 (by omega)
   have v14 : Pm.p (pmS w10.heap.size (namedL q.set lb q.set.length)) wF (vals 14) := hv 14 (by omega)
   have v15 : Pm.p (pmCt w10.heap.size (dgH qh) (namedL q.set lb q.set.length)) wF (vals 15) := hv 15 (by omega)
   have v16 : Pm.p (pmAns w10.heap.size (j : Int) qh (.slice ka2 q.head.skips.length kc2) q.next (dgH qh) (namedL q.set lb q.set.length)) wF (vals 16) := hv 16 (by omega)
   have v17 : Pm.p (pmBlk w10.heap.size 42 (acs 0 (.slice none 0 0) (.slice none 0 0) [] (.slice none 0 0)).toArray) wF (vals 17) := hv 17 (by omega)
   simp only [putD,Nat.zero_add,Nat.reduceAdd,v0,v1,v2,v5,v6,v8,v9,v10,v11,v12,v13]
   clear v0 v1 v2 v5 v6 v8 v9 v10 v11 v12 v13 hv
   try simp only [pna,pnb,pnc,pnd,pne]
   obtain ⟨hv2,nv2,sg2,hv98,hA2⟩ := v16
   obtain ⟨k14,hk14,hkB14,KB,KT⟩ := v17
   rw [hk14,hv98]
   refine wp_rowST row_ans (.tmp 14) (.tmp 98) rfl rfl (vs := acs (j : Int) hv2 nv2 (dgH qh) sg2) rfl rfl hA2.one (us := acs 0 (.slice none 0 0) (.slice none 0 0) [] (.slice none 0 0)) rfl KB KT ?_
   intro w11 N14 T14 m11
   have hb1011 : Below w10.heap.size w10 w11 := Below.mod hF m11 hF.size (by simpa using hkB14)
   have HA1 := Lib.hid (HA1.out.keep hb1011)
   have HA2 := Lib.hid (hA2.modT m11 KT (by decide) (by decide) (by decide))
   have HN3 := Lib.hid (HN3.out.keep hb1011)
   have HN5 := Lib.hid (N5.keep hb1011)
   have HN11 := Lib.hid (N11.keep hb1011)
   have T11 := T11.keep hb1011
   have HN12 := Lib.hid (HN12.out.keep hb1011)
   have T12 := T12.keep hb1011
   have HN6 := Lib.hid (HN6.out.keep hb1011)
   have HN7 := Lib.hid (HN7.out.keep hb1011)
   have HTab := Lib.hid (HTab.out.keep hb1011)
   have HN14 := Lib.hid N14
   have HF14 : Hid (Foreign w11 p4 k14) := Lib.hid (T14.foreign (by decide) (by have := HKA.out; omega))
   have HF12 : Hid (Foreign w11 p4 k12) := Lib.hid (T12.foreign (by decide) (by have := HK67.out; omega))
   have HF11 : Hid (Foreign w11 p4 k11) := Lib.hid (T11.foreign (by decide) (by have := HK67.out; omega))
   have HFR : Hid (w.heap.size + 4 ≤ k12 ∧ w.heap.size + 4 ≤ k14 ∧ k11 < w11.heap.size ∧ k12 < w11.heap.size) := Lib.hid ⟨by have := HK67.out; omega,by have := HKA.out; omega,T11.lt,T12.lt⟩
   have hb011 := hb010.trans (hb1011.mono hb010.size)
   have hEne := HE.out.ne
   clear KB KT hk14 hv98 m11 hF hA2 v3 v4 v7 v14 v15 qN qM qD N5 N13 N11 N14 HN10 T10 hb1011 T13
   go_wp2_with fail
   go_loopw [15] (fun s15 wr => ∃ k : Nat,s15 = .int .i64 ((k : Int)) ∧ 1 ≤ k ∧ k ≤ E.length ∧ Hid (∃ L,Tab wr W4.heap.size p4 L ∧ TabOk E L) ∧ Hid (Below W4.heap.size w11 wr) ∧ Hid (OrF p4 w11 wr)) (fun s15 _ => E.length - (intOf s15).toNat)
   case atStart => exact ⟨1,rfl,by omega,hEne,Lib.hid ⟨[],HTab.out,tabOk_nil _⟩,Lib.hid (Below.refl _ _),Lib.hid (OrF.refl _ _)⟩
   case round =>
    obtain ⟨k,rfl,hk1,hk,HT,HB,HO⟩ := hrel
    obtain ⟨wr,hwr⟩ := Below.name HB.out
    subst hwr
    have HT0 := HT
    by_cases hkl : k < E.length
    ·have hei : EntI S (E.getD k entZ) k := HE.out.all k hkl
     obtain ⟨x,hx⟩ : ∃ x,E[k]? = some x := ⟨E[k],List.getElem?_eq_getElem hkl⟩
     have hxd : E.getD k entZ = x := by rw [List.getD_eq_getElem?_getD,hx]; rfl
     rw [hxd] at hei
     have hbr : Below w.heap.size w wr := hb011.trans (HB.out.mono (by omega))
     obtain ⟨g',off',sk',it',st',nx',e1,hg',hr',hat'⟩ := (HV.out.keep hbr).at k x hx
     injection e1 with e1
     injection e1 with e1 e2 _
     subst e1 e2
     obtain ⟨sa',sc',hst'⟩ := hat'.2.2.1.form
     simp only at hst'
     subst hst'
     have c11 : wr.cell? ⟨g,off + k * 17 + 11,none⟩ = some (.string ⟨List.toArray x.sum⟩) := hr' 11 _ rfl
     have k1 : decide ((k : Int) < (E.length : Int)) = true := by simp; omega
     have k2 : (k : Int) < (E.length : Int) := by omega
     have hsl : x.sum.length ≤ 32 := by rw [hei.sm]; exact dgH_le _
     have qm := fun W => rmark_any 6 x.sum (by omega) W
     have hml := markP_len 6 x.sum
     have HXD := Lib.hid hxd
     have HEI := Lib.hid hei
     have HX := Lib.hid hx
     clear hxd hei hx hr' hat' hg'
     go_wp2_with fail
     refine (qm _).mono ?_
     rintro e w12 ⟨rfl,hb12⟩
     go_wp2_with fail
     have HML := Lib.hid hml
     clear hml
     have HT : Hid (∃ L,Tab w12 W4.heap.size p4 L ∧ TabOk E L) := Lib.hid (by obtain ⟨L,h1,h2⟩ := HT.out; exact ⟨L,h1.keep hb12,h2⟩)
     have HO : Hid (OrF p4 w11 w12) := Lib.hid (OrF.trans HO.out (OrF.below hb12))
     have hW4 : W4.heap.size ≤ wr.heap.size := by obtain ⟨L,h1,_⟩ := HT0.out; exact Nat.le_trans h1.lt.2 (Nat.le_of_lt h1.lt.1)
     have HB := Lib.hid (HB.out.trans (hb12.mono hW4))
     generalize hmp : (markP 6 x.sum).1 = mk at *
     generalize (markP 6 x.sum).2 = mc at *
     have HMP := Lib.hid hmp
     clear hmp qm c11 hb12 hbr k1 k2
     go_loopw [18] (fun s18 wq => ∃ n : Nat,s18 = .int .i64 ((n : Int)) ∧ n ≤ x.set.length ∧ Hid (∃ L,Tab wq W4.heap.size p4 L ∧ TabOk E L) ∧ Hid (Below W4.heap.size w11 wq) ∧ Hid (OrF p4 w11 wq)) (fun s18 _ => x.set.length - (intOf s18).toNat)
     case atStart => exact ⟨0,rfl,by omega,HT,HB,HO⟩
     case round =>
      clear HT HB HO
      obtain ⟨n,rfl,hn,HT,HB,HO⟩ := hrel
      obtain ⟨wq,hwq⟩ := Below.name HB.out
      subst hwq
      have hbq : Below w.heap.size w wq := hb011.trans (HB.out.mono (by omega))
      obtain ⟨g',off',sk2,it2,st2,nx2,e1,hg',hr',hat'⟩ := (HV.out.keep hbq).at k x HX.out
      injection e1 with e1
      injection e1 with e1 e2 _
      subst e1 e2
      obtain ⟨sa',sc',hst'⟩ := hat'.2.2.1.form
      simp only at hst'
      subst hst'
      have HC15 : Hid (wq.cell? ⟨g,off + k * 17 + 15,none⟩ = some (.slice sa' x.set.length sc')) := Lib.hid (hr' 15 _ rfl)
      have c15 := HC15.out
      have hgq := hg'
      have HMS := Lib.hid hat'.2.2.1
      clear hr' hat' hg'
      have k2 : (k : Int) < (E.length : Int) := by omega
      by_cases hnl : n < x.set.length
      ·have n1 : decide ((n : Int) < (x.set.length : Int)) = true := by simp; omega
       have n2 : (n : Int) < (x.set.length : Int) := by omega
       obtain ⟨g3,o3,e3,hg3,c3,_⟩ := HMS.out.at n hnl
       subst e3
       have HC3 := Lib.hid c3
       have N3q := HN3.out.belowB HB.out (by omega)
       have hnm : ((x.set.getD n ([],0)).1).length ≤ 6 := by
        have h1 := HE.out.chk
        simp only [chkM,Bool.and_eq_true,decide_eq_true_eq] at h1
        have h2 := HEI.out.st
        rw [h2] at hnl ⊢
        exact (okM_at S [] h1.2 n hnl).1
       generalize (x.set.getD n ([],0)).1 = nm at *
       have r3 := N3q.range
       go_upto_region 16 with fail
       refine wp_region_inv2 rfl 23 ⟨some 151,.call { callee := .value (.func 35),args := #[.tmp 128,.tmp 137,.tmp 138,.tmp 150],argTypes := #[43,9,9,4] },34,"law.go:87",#[⟨0,.data⟩,⟨9,.data⟩,⟨10,.data⟩,⟨22,.data⟩,⟨21,.chain⟩],none⟩ rfl (by kernel_rfl) [128,129,130,131,132,133,134,135,136,137,138,139,140,141,142,143,144,145,146,147,148,149,150] (by kernel_rfl) [.eq (.pointer (some ⟨p4,0,none⟩)),.eq (.slice (some ⟨g,off,none⟩) E.length ec),.eq (.int .i64 ((k : Int))),.eq (.pointer (some ⟨g,off + k * 17,none⟩)),.eq (.pointer (some ⟨g,off + k * 17 + 15,none⟩)),.eq (.slice (some ⟨g3,o3,none⟩) x.set.length sc'),.eq (.int .i64 ((n : Int))),.eq (.pointer (some ⟨g3,o3 + n * 2,none⟩)),.eq (.pointer (some ⟨g3,o3 + n * 2,none⟩)),.eq (.string ⟨nm.toArray⟩),.eq (.string ⟨mk.toArray⟩),.eq (.agg (wdcs va vs many vb).toArray),.eq (.slice (some ⟨g,off,none⟩) E.length ec),.eq (.int .i64 ((k : Int))),.eq (.pointer (some ⟨g,off + k * 17,none⟩)),.eq (.pointer (some ⟨g,off + k * 17 + 15,none⟩)),.eq (.slice (some ⟨g3,o3,none⟩) x.set.length sc'),.eq (.int .i64 ((n : Int))),.eq (.pointer (some ⟨g3,o3 + n * 2,none⟩)),.eq (.pointer (some ⟨g3,o3 + n * 2,none⟩)),.eq (.string ⟨nm.toArray⟩),.eq (.bool (badB B nm)),.eq (.bool (!(badB B nm)))] (fun i hi => ?_) (fun vals wF hF hv => ?_)
       focus
        obtain rfl | rfl | rfl | rfl | rfl | rfl | rfl | rfl | rfl | rfl | rfl | rfl | rfl | rfl | rfl | rfl | rfl | rfl | rfl | rfl | rfl | rfl | rfl : i = 0 ∨ i = 1 ∨ i = 2 ∨ i = 3 ∨ i = 4 ∨ i = 5 ∨ i = 6 ∨ i = 7 ∨ i = 8 ∨ i = 9 ∨ i = 10 ∨ i = 11 ∨ i = 12 ∨ i = 13 ∨ i = 14 ∨ i = 15 ∨ i = 16 ∨ i = 17 ∨ i = 18 ∨ i = 19 ∨ i = 20 ∨ i = 21 ∨ i = 22 := by omega
        focus
         intro o ho a wo hS hdep hout
         obtain rfl := Option.some.inj (show some (⟨some 128,.move (.tmp 9),43,"law.go:87",#[],none⟩ : Oper) = some o from ho)
         have e9 : a.eval (.tmp 9) = .pointer (some ⟨p4,0,none⟩) := hout 9 rfl
         have evc : ∀ v,a.eval (.const v) = v := fun _ => rfl
         have evf : ∀ f,a.eval (.func f) = .func (.func f) #[] #[] := fun _ => rfl
         clear hdep hout ho
         refine ob_val (.pointer (some ⟨p4,0,none⟩)) ?_ rfl
         generalize a.eval = ev at *
         (go_simp; try rfl)
        focus
         intro o ho a wo hS hdep hout
         obtain rfl := Option.some.inj (show some (⟨some 129,.move (.tmp 1),31,"law.go:87",#[],none⟩ : Oper) = some o from ho)
         have e1 : a.eval (.tmp 1) = .slice (some ⟨g,off,none⟩) E.length ec := hout 1 rfl
         have evc : ∀ v,a.eval (.const v) = v := fun _ => rfl
         have evf : ∀ f,a.eval (.func f) = .func (.func f) #[] #[] := fun _ => rfl
         clear hdep hout ho
         refine ob_val (.slice (some ⟨g,off,none⟩) E.length ec) ?_ rfl
         generalize a.eval = ev at *
         (go_simp; try rfl)
        focus
         intro o ho a wo hS hdep hout
         obtain rfl := Option.some.inj (show some (⟨some 130,.move (.tmp 15),3,"law.go:87",#[],none⟩ : Oper) = some o from ho)
         have e15 : a.eval (.tmp 15) = .int .i64 ((k : Int)) := hout 15 rfl
         have evc : ∀ v,a.eval (.const v) = v := fun _ => rfl
         have evf : ∀ f,a.eval (.func f) = .func (.func f) #[] #[] := fun _ => rfl
         clear hdep hout ho
         refine ob_val (.int .i64 ((k : Int))) ?_ rfl
         generalize a.eval = ev at *
         (go_simp; try rfl)
        focus
         intro o ho a wo hS hdep hout
         obtain rfl := Option.some.inj (show some (⟨some 131,.indexAddr 31 (.tmp 129) (.tmp 130),0,"law.go:87",#[⟨1,.data⟩,⟨2,.data⟩],none⟩ : Oper) = some o from ho)
         have e129 : a.eval (.tmp 129) = .slice (some ⟨g,off,none⟩) E.length ec := hdep 1 rfl
         have e130 : a.eval (.tmp 130) = .int .i64 ((k : Int)) := hdep 2 rfl
         have evc : ∀ v,a.eval (.const v) = v := fun _ => rfl
         have evf : ∀ f,a.eval (.func f) = .func (.func f) #[] #[] := fun _ => rfl
         clear hdep hout ho
         refine ob_val (.pointer (some ⟨g,off + k * 17,none⟩)) ?_ rfl
         generalize a.eval = ev at *
         (go_simp; try rfl)
        focus
         intro o ho a wo hS hdep hout
         obtain rfl := Option.some.inj (show some (⟨some 132,.fieldAddr 52 (.tmp 131) 5,0,"law.go:87",#[⟨3,.data⟩],none⟩ : Oper) = some o from ho)
         have e131 : a.eval (.tmp 131) = .pointer (some ⟨g,off + k * 17,none⟩) := hdep 3 rfl
         have evc : ∀ v,a.eval (.const v) = v := fun _ => rfl
         have evf : ∀ f,a.eval (.func f) = .func (.func f) #[] #[] := fun _ => rfl
         clear hdep hout ho
         refine ob_val (.pointer (some ⟨g,off + k * 17 + 15,none⟩)) ?_ rfl
         generalize a.eval = ev at *
         (go_simp; try rfl)
        focus
         intro o ho a wo hS hdep hout
         obtain rfl := Option.some.inj (show some (⟨some 133,.load 23 (.tmp 132),23,"law.go:87",#[⟨4,.data⟩],none⟩ : Oper) = some o from ho)
         have e132 : a.eval (.tmp 132) = .pointer (some ⟨g,off + k * 17 + 15,none⟩) := hdep 4 rfl
         have evc : ∀ v,a.eval (.const v) = v := fun _ => rfl
         have evf : ∀ f,a.eval (.func f) = .func (.func f) #[] #[] := fun _ => rfl
         clear hdep hout ho
         refine ob_val (.slice (some ⟨g3,o3,none⟩) x.set.length sc') ?_ rfl
         generalize a.eval = ev at *
         exact (by have c := (hS.cell (p := ⟨g,off + k * 17 + 15,none⟩) hgq).trans HC15.out; go_simp; try rfl)
        focus
         intro o ho a wo hS hdep hout
         obtain rfl := Option.some.inj (show some (⟨some 134,.move (.tmp 18),3,"law.go:87",#[],none⟩ : Oper) = some o from ho)
         have e18 : a.eval (.tmp 18) = .int .i64 ((n : Int)) := hout 18 rfl
         have evc : ∀ v,a.eval (.const v) = v := fun _ => rfl
         have evf : ∀ f,a.eval (.func f) = .func (.func f) #[] #[] := fun _ => rfl
         clear hdep hout ho
         refine ob_val (.int .i64 ((n : Int))) ?_ rfl
         generalize a.eval = ev at *
         (go_simp; try rfl)
        focus
         intro o ho a wo hS hdep hout
         obtain rfl := Option.some.inj (show some (⟨some 135,.indexAddr 23 (.tmp 133) (.tmp 134),0,"law.go:87",#[⟨5,.data⟩,⟨6,.data⟩],none⟩ : Oper) = some o from ho)
         have e133 : a.eval (.tmp 133) = .slice (some ⟨g3,o3,none⟩) x.set.length sc' := hdep 5 rfl
         have e134 : a.eval (.tmp 134) = .int .i64 ((n : Int)) := hdep 6 rfl
         have evc : ∀ v,a.eval (.const v) = v := fun _ => rfl
         have evf : ∀ f,a.eval (.func f) = .func (.func f) #[] #[] := fun _ => rfl
         clear hdep hout ho
         refine ob_val (.pointer (some ⟨g3,o3 + n * 2,none⟩)) ?_ rfl
         generalize a.eval = ev at *
         (go_simp; try rfl)
        focus
         intro o ho a wo hS hdep hout
         obtain rfl := Option.some.inj (show some (⟨some 136,.fieldAddr 77 (.tmp 135) 0,0,"law.go:87",#[⟨7,.data⟩],none⟩ : Oper) = some o from ho)
         have e135 : a.eval (.tmp 135) = .pointer (some ⟨g3,o3 + n * 2,none⟩) := hdep 7 rfl
         have evc : ∀ v,a.eval (.const v) = v := fun _ => rfl
         have evf : ∀ f,a.eval (.func f) = .func (.func f) #[] #[] := fun _ => rfl
         clear hdep hout ho
         refine ob_val (.pointer (some ⟨g3,o3 + n * 2,none⟩)) ?_ rfl
         generalize a.eval = ev at *
         (go_simp; try rfl)
        focus
         intro o ho a wo hS hdep hout
         obtain rfl := Option.some.inj (show some (⟨some 137,.load 9 (.tmp 136),9,"law.go:87",#[⟨8,.data⟩],none⟩ : Oper) = some o from ho)
         have e136 : a.eval (.tmp 136) = .pointer (some ⟨g3,o3 + n * 2,none⟩) := hdep 8 rfl
         have evc : ∀ v,a.eval (.const v) = v := fun _ => rfl
         have evf : ∀ f,a.eval (.func f) = .func (.func f) #[] #[] := fun _ => rfl
         clear hdep hout ho
         refine ob_val (.string ⟨nm.toArray⟩) ?_ rfl
         generalize a.eval = ev at *
         exact (by have c := (hS.cell (p := ⟨g3,o3 + n * 2,none⟩) hg3).trans HC3.out; go_simp; try rfl)
        focus
         intro o ho a wo hS hdep hout
         obtain rfl := Option.some.inj (show some (⟨some 138,.move (.tmp 16),9,"law.go:87",#[],none⟩ : Oper) = some o from ho)
         have e16 : a.eval (.tmp 16) = .string ⟨mk.toArray⟩ := hout 16 rfl
         have evc : ∀ v,a.eval (.const v) = v := fun _ => rfl
         have evf : ∀ f,a.eval (.func f) = .func (.func f) #[] #[] := fun _ => rfl
         clear hdep hout ho
         refine ob_val (.string ⟨mk.toArray⟩) ?_ rfl
         generalize a.eval = ev at *
         (go_simp; try rfl)
        focus
         intro o ho a wo hS hdep hout
         obtain rfl := Option.some.inj (show some (⟨some 139,.load 26 (.tmp 3),26,"law.go:87",#[],none⟩ : Oper) = some o from ho)
         have e3 : a.eval (.tmp 3) = .pointer (some ⟨w.heap.size,0,none⟩) := hout 3 rfl
         have evc : ∀ v,a.eval (.const v) = v := fun _ => rfl
         have evf : ∀ f,a.eval (.func f) = .func (.func f) #[] #[] := fun _ => rfl
         clear hdep hout ho
         refine ob_val (.agg (wdcs va vs many vb).toArray) ?_ rfl
         exact exec_rowR row_wd (.tmp 3) rfl e3 rfl (rg_keep r3 N3q.lt hS)
        focus
         intro o ho a wo hS hdep hout
         obtain rfl := Option.some.inj (show some (⟨some 140,.move (.tmp 1),31,"law.go:87",#[],none⟩ : Oper) = some o from ho)
         have e1 : a.eval (.tmp 1) = .slice (some ⟨g,off,none⟩) E.length ec := hout 1 rfl
         have evc : ∀ v,a.eval (.const v) = v := fun _ => rfl
         have evf : ∀ f,a.eval (.func f) = .func (.func f) #[] #[] := fun _ => rfl
         clear hdep hout ho
         refine ob_val (.slice (some ⟨g,off,none⟩) E.length ec) ?_ rfl
         generalize a.eval = ev at *
         (go_simp; try rfl)
        focus
         intro o ho a wo hS hdep hout
         obtain rfl := Option.some.inj (show some (⟨some 141,.move (.tmp 15),3,"law.go:87",#[],none⟩ : Oper) = some o from ho)
         have e15 : a.eval (.tmp 15) = .int .i64 ((k : Int)) := hout 15 rfl
         have evc : ∀ v,a.eval (.const v) = v := fun _ => rfl
         have evf : ∀ f,a.eval (.func f) = .func (.func f) #[] #[] := fun _ => rfl
         clear hdep hout ho
         refine ob_val (.int .i64 ((k : Int))) ?_ rfl
         generalize a.eval = ev at *
         (go_simp; try rfl)
        focus
         intro o ho a wo hS hdep hout
         obtain rfl := Option.some.inj (show some (⟨some 142,.indexAddr 31 (.tmp 140) (.tmp 141),0,"law.go:87",#[⟨12,.data⟩,⟨13,.data⟩],none⟩ : Oper) = some o from ho)
         have e140 : a.eval (.tmp 140) = .slice (some ⟨g,off,none⟩) E.length ec := hdep 12 rfl
         have e141 : a.eval (.tmp 141) = .int .i64 ((k : Int)) := hdep 13 rfl
         have evc : ∀ v,a.eval (.const v) = v := fun _ => rfl
         have evf : ∀ f,a.eval (.func f) = .func (.func f) #[] #[] := fun _ => rfl
         clear hdep hout ho
         refine ob_val (.pointer (some ⟨g,off + k * 17,none⟩)) ?_ rfl
         generalize a.eval = ev at *
         (go_simp; try rfl)
        focus
         intro o ho a wo hS hdep hout
         obtain rfl := Option.some.inj (show some (⟨some 143,.fieldAddr 52 (.tmp 142) 5,0,"law.go:87",#[⟨14,.data⟩],none⟩ : Oper) = some o from ho)
         have e142 : a.eval (.tmp 142) = .pointer (some ⟨g,off + k * 17,none⟩) := hdep 14 rfl
         have evc : ∀ v,a.eval (.const v) = v := fun _ => rfl
         have evf : ∀ f,a.eval (.func f) = .func (.func f) #[] #[] := fun _ => rfl
         clear hdep hout ho
         refine ob_val (.pointer (some ⟨g,off + k * 17 + 15,none⟩)) ?_ rfl
         generalize a.eval = ev at *
         (go_simp; try rfl)
        focus
         intro o ho a wo hS hdep hout
         obtain rfl := Option.some.inj (show some (⟨some 144,.load 23 (.tmp 143),23,"law.go:87",#[⟨15,.data⟩],none⟩ : Oper) = some o from ho)
         have e143 : a.eval (.tmp 143) = .pointer (some ⟨g,off + k * 17 + 15,none⟩) := hdep 15 rfl
         have evc : ∀ v,a.eval (.const v) = v := fun _ => rfl
         have evf : ∀ f,a.eval (.func f) = .func (.func f) #[] #[] := fun _ => rfl
         clear hdep hout ho
         refine ob_val (.slice (some ⟨g3,o3,none⟩) x.set.length sc') ?_ rfl
         generalize a.eval = ev at *
         exact (by have c := (hS.cell (p := ⟨g,off + k * 17 + 15,none⟩) hgq).trans HC15.out; go_simp; try rfl)
        focus
         intro o ho a wo hS hdep hout
         obtain rfl := Option.some.inj (show some (⟨some 145,.move (.tmp 18),3,"law.go:87",#[],none⟩ : Oper) = some o from ho)
         have e18 : a.eval (.tmp 18) = .int .i64 ((n : Int)) := hout 18 rfl
         have evc : ∀ v,a.eval (.const v) = v := fun _ => rfl
         have evf : ∀ f,a.eval (.func f) = .func (.func f) #[] #[] := fun _ => rfl
         clear hdep hout ho
         refine ob_val (.int .i64 ((n : Int))) ?_ rfl
         generalize a.eval = ev at *
         (go_simp; try rfl)
        focus
         intro o ho a wo hS hdep hout
         obtain rfl := Option.some.inj (show some (⟨some 146,.indexAddr 23 (.tmp 144) (.tmp 145),0,"law.go:87",#[⟨16,.data⟩,⟨17,.data⟩],none⟩ : Oper) = some o from ho)
         have e144 : a.eval (.tmp 144) = .slice (some ⟨g3,o3,none⟩) x.set.length sc' := hdep 16 rfl
         have e145 : a.eval (.tmp 145) = .int .i64 ((n : Int)) := hdep 17 rfl
         have evc : ∀ v,a.eval (.const v) = v := fun _ => rfl
         have evf : ∀ f,a.eval (.func f) = .func (.func f) #[] #[] := fun _ => rfl
         clear hdep hout ho
         refine ob_val (.pointer (some ⟨g3,o3 + n * 2,none⟩)) ?_ rfl
         generalize a.eval = ev at *
         (go_simp; try rfl)
        focus
         intro o ho a wo hS hdep hout
         obtain rfl := Option.some.inj (show some (⟨some 147,.fieldAddr 77 (.tmp 146) 0,0,"law.go:87",#[⟨18,.data⟩],none⟩ : Oper) = some o from ho)
         have e146 : a.eval (.tmp 146) = .pointer (some ⟨g3,o3 + n * 2,none⟩) := hdep 18 rfl
         have evc : ∀ v,a.eval (.const v) = v := fun _ => rfl
         have evf : ∀ f,a.eval (.func f) = .func (.func f) #[] #[] := fun _ => rfl
         clear hdep hout ho
         refine ob_val (.pointer (some ⟨g3,o3 + n * 2,none⟩)) ?_ rfl
         generalize a.eval = ev at *
         (go_simp; try rfl)
        focus
         intro o ho a wo hS hdep hout
         obtain rfl := Option.some.inj (show some (⟨some 148,.load 9 (.tmp 147),9,"law.go:87",#[⟨19,.data⟩],none⟩ : Oper) = some o from ho)
         have e147 : a.eval (.tmp 147) = .pointer (some ⟨g3,o3 + n * 2,none⟩) := hdep 19 rfl
         have evc : ∀ v,a.eval (.const v) = v := fun _ => rfl
         have evf : ∀ f,a.eval (.func f) = .func (.func f) #[] #[] := fun _ => rfl
         clear hdep hout ho
         refine ob_val (.string ⟨nm.toArray⟩) ?_ rfl
         generalize a.eval = ev at *
         exact (by have c := (hS.cell (p := ⟨g3,o3 + n * 2,none⟩) hg3).trans HC3.out; go_simp; try rfl)
        focus
         intro o ho a wo hS hdep hout
         obtain rfl := Option.some.inj (show some (⟨some 149,.call { callee := .value (.func 16),args := #[.tmp 139,.tmp 148],argTypes := #[26,9] },4,"law.go:87",#[⟨11,.data⟩,⟨20,.data⟩],none⟩ : Oper) = some o from ho)
         have e139 : a.eval (.tmp 139) = .agg (wdcs va vs many vb).toArray := hdep 11 rfl
         have e148 : a.eval (.tmp 148) = .string ⟨nm.toArray⟩ := hdep 20 rfl
         have evc : ∀ v,a.eval (.const v) = v := fun _ => rfl
         have evf : ∀ f,a.eval (.func f) = .func (.func f) #[] #[] := fun _ => rfl
         clear hdep hout ho
         refine ob_call ?_ ((isbad_any va vs vb many B nm wo (HBB.out.keep (hbq.trans (hS.mono hbq.size)))).mono fun _ _ h => ⟨_,h.1,h.2,rfl⟩)
         generalize a.eval = ev at *
         (go_simp; try rfl)
        focus
         intro o ho a wo hS hdep hout
         obtain rfl := Option.some.inj (show some (⟨some 150,.unOp UnOp.not 4 (.tmp 149),4,"law.go:87",#[⟨21,.data⟩],none⟩ : Oper) = some o from ho)
         have e149 : a.eval (.tmp 149) = .bool (badB B nm) := hdep 21 rfl
         have evc : ∀ v,a.eval (.const v) = v := fun _ => rfl
         have evf : ∀ f,a.eval (.func f) = .func (.func f) #[] #[] := fun _ => rfl
         clear hdep hout ho
         refine ob_val (.bool (!(badB B nm))) ?_ rfl
         generalize a.eval = ev at *
         (go_simp; try rfl)
       have v0 : vals 0 = .pointer (some ⟨p4,0,none⟩) := hv 0 (by omega)
       have v1 : vals 1 = .slice (some ⟨g,off,none⟩) E.length ec := hv 1 (by omega)
       have v2 : vals 2 = .int .i64 ((k : Int)) := hv 2 (by omega)
       have v3 : vals 3 = .pointer (some ⟨g,off + k * 17,none⟩) := hv 3 (by omega)
       have v4 : vals 4 = .pointer (some ⟨g,off + k * 17 + 15,none⟩) := hv 4 (by omega)
       have v5 : vals 5 = .slice (some ⟨g3,o3,none⟩) x.set.length sc' := hv 5 (by omega)
       have v6 : vals 6 = .int .i64 ((n : Int)) := hv 6 (by omega)
       have v7 : vals 7 = .pointer (some ⟨g3,o3 + n * 2,none⟩) := hv 7 (by omega)
       have v8 : vals 8 = .pointer (some ⟨g3,o3 + n * 2,none⟩) := hv 8 (by omega)
       have v9 : vals 9 = .string ⟨nm.toArray⟩ := hv 9 (by omega)
       have v10 : vals 10 = .string ⟨mk.toArray⟩ := hv 10 (by omega)
       have v11 : vals 11 = .agg (wdcs va vs many vb).toArray := hv 11 (by omega)
       have v12 : vals 12 = .slice (some ⟨g,off,none⟩) E.length ec := hv 12 (by omega)
       have v13 : vals 13 = .int .i64 ((k : Int)) := hv 13 (by omega)
       have v14 : vals 14 = .pointer (some ⟨g,off + k * 17,none⟩) := hv 14 (by omega)
       have v15 : vals 15 = .pointer (some ⟨g,off + k * 17 + 15,none⟩) := hv 15 (by omega)
       have v16 : vals 16 = .slice (some ⟨g3,o3,none⟩) x.set.length sc' := hv 16 (by omega)
       have v17 : vals 17 = .int .i64 ((n : Int)) := hv 17 (by omega)
       have v18 : vals 18 = .pointer (some ⟨g3,o3 + n * 2,none⟩) := hv 18 (by omega)
       have v19 : vals 19 = .pointer (some ⟨g3,o3 + n * 2,none⟩) := hv 19 (by omega)
       have v20 : vals 20 = .string ⟨nm.toArray⟩ := hv 20 (by omega)
       have v21 : vals 21 = .bool (badB B nm) := hv 21 (by omega)
       have v22 : vals 22 = .bool (!(badB B nm)) := hv 22 (by omega)
       simp only [putD,Nat.zero_add,Nat.reduceAdd,v0,v1,v2,v3,v4,v5,v6,v7,v8,v9,v10,v11,v12,v13,v14,v15,v16,v17,v18,v19,v20,v21,v22]
       clear v0 v1 v2 v3 v4 v5 v6 v7 v8 v9 v10 v11 v12 v13 v14 v15 v16 v17 v18 v19 v20 v21 v22 hv
       try simp only [pna,pnb,pnc,pnd,pne]
       obtain ⟨L,hTL,hOk⟩ := HT.out
       have hW4q := Nat.le_trans hTL.lt.2 (Nat.le_of_lt hTL.lt.1)
       have qs := osignf_any W4.heap.size p4 L nm mk (!(badB B nm)) (by omega) (by have := HML.out; omega) wF (hTL.keep hF)
       have HBz := Lib.hid (HB.out.trans (hF.mono hW4q))
       have HOz := Lib.hid (HO.out.trans (OrF.below hF))
       have HSG : Hid (TabOk E (signL L nm mk (!(badB B nm))).1) := Lib.hid (by have := hOk.sign nm (!(badB B nm)) k hk1 hkl; rw [HXD.out,HMP.out] at this; exact this)
       have hx7 : x.set.length ≤ 7 := by have := HEI.out.st; rw [this]; omega
       clear hTL hOk hF
       go_wp2_with fail
       refine qs.mono ?_
       rintro e wz ⟨rfl,hTz,hbz,hoz⟩
       go_wp2_with fail
       exact ⟨⟨n + 1,by go_num,by omega,Lib.hid ⟨_,hTz,HSG.out⟩,Lib.hid (HBz.out.trans hbz),Lib.hid (HOz.out.trans hoz)⟩,by simp [intOf]; omega⟩
      ·have n1 : decide ((n : Int) < (x.set.length : Int)) = false := by simp; omega
       have n2 : decide (n < x.set.length) = false := by rw [decide_eq_false_iff_not]; omega
       have n3 := Lib.hid hn
       clear hn hnl
       go_wp2_with fail
       exact ⟨⟨k + 1,by go_num,by omega,by omega,HT,HB,HO⟩,by simp [intOf]; omega⟩
    ·have k1 : decide ((k : Int) < (E.length : Int)) = false := by simp; omega
     have k2 : decide (k < E.length) = false := by rw [decide_eq_false_iff_not]; omega
     clear hk hkl
     have HQS := Lib.hid hqs
     clear hqs hqn hps hpn
     have hdl := dgH_le qh
     generalize hdq : dgH qh = dq at *
     have HDQ := Lib.hid hdq
     have N14 := HN14.out.orf HF14.out HO.out
     have c14 := N14.cell 5
     simp only [acs,List.getElem?_toArray,List.getElem?_cons_zero,List.getElem?_cons_succ] at c14
     have qm := fun W => rmark_any 6 dq (by omega) W
     have hml := markP_len 6 dq
     clear N14 hdq
     go_upto_region 17 with fail
     go_wp2_with fail
     refine (qm _).mono ?_
     rintro e w12 ⟨rfl,hb12⟩
     go_wp2_with fail
     have HML := Lib.hid hml
     clear hml
     have HT2 : Hid (∃ L,Tab w12 W4.heap.size p4 L ∧ TabOk2 E B dq all L) := Lib.hid (by obtain ⟨L,h1,h2⟩ := HT.out; exact ⟨L,h1.keep hb12,h2.two B dq all⟩)
     have hW4 : W4.heap.size ≤ wr.heap.size := by obtain ⟨L,h1,_⟩ := HT0.out; exact Nat.le_trans h1.lt.2 (Nat.le_of_lt h1.lt.1)
     have HO2 : Hid (OrF p4 w11 w12) := Lib.hid (OrF.trans HO.out (OrF.below hb12))
     have HB2 := Lib.hid (HB.out.trans (hb12.mono hW4))
     generalize hmk : (markP 6 dq).1 = mk at *
     generalize hmc : (markP 6 dq).2 = mc at *
     have HMK := Lib.hid hmk
     have HMC := Lib.hid hmc
     clear hmk hmc qm c14 hb12 k1 k2 HT HT0 HO HB
     go_loopw [21] (fun s21 wq => ∃ n : Nat,s21 = .int .i64 ((n : Int)) ∧ n ≤ q.set.length ∧ Hid (∃ L,Tab wq W4.heap.size p4 L ∧ TabOk2 E B dq all L) ∧ Hid (Below W4.heap.size w11 wq) ∧ Hid (OrF p4 w11 wq)) (fun s21 _ => q.set.length - (intOf s21).toNat)
     case atStart => exact ⟨0,rfl,by omega,HT2,HB2,HO2⟩
     case round =>
      clear HT2 HB2 HO2
      obtain ⟨n,rfl,hn,HT,HB,HO⟩ := hrel
      obtain ⟨wq,hwq⟩ := Below.name HB.out
      subst hwq
      have N11 := HN11.out.orf HF11.out HO.out
      have c11 := N11.cell 15
      simp only [ecs,List.getElem?_toArray,List.getElem?_cons_zero,List.getElem?_cons_succ] at c11
      by_cases hc : mc = 0 ∧ n < q.set.length
      ·obtain ⟨hc1,hn1⟩ := hc
       subst hc1
       have n1 : decide ((n : Int) < (q.set.length : Int)) = true := by simp; omega
       have n2 : (n : Int) < (q.set.length : Int) := by omega
       have hx7 : q.set.length ≤ 7 := by rw [HQS.out]; omega
       have hbq : Below w.heap.size w wq := hb011.trans (HB.out.mono (by omega))
       have hms : MS wq (.slice sa2 q.set.length sc2) q.set := HAT2.out.2.2.1.keep hbq
       obtain ⟨g3,o3,e3,hg3,c3,_⟩ := hms.at n hn1
       subst e3
       have HC3 := Lib.hid c3
       have N3q := HN3.out.belowB HB.out (by omega)
       have N5q := HN5.out.belowB HB.out (by omega)
       have hnm : ((q.set.getD n ([],0)).1).length ≤ 6 := by
        have h1 := HE.out.chk
        simp only [chkM,Bool.and_eq_true,decide_eq_true_eq] at h1
        rw [HQS.out] at hn1 ⊢
        exact (okM_at S [] h1.2 n hn1).1
       generalize (q.set.getD n ([],0)).1 = nm at *
       have r3 := N3q.range
       have c5 := N5q.cell 5
       simp only [fkcs,List.getElem?_toArray,List.getElem?_cons_zero,List.getElem?_cons_succ] at c5
       clear hms
       cases hbd : badB B nm
       ·have qb : ∀ W,Below wq.heap.size wq W → Calls Tryz.prog 16 #[.agg (wdcs va vs many vb).toArray,.string ⟨nm.toArray⟩] W fun e w' => e = .returned (.bool false) ∧ Below W.heap.size W w' := fun W hW => by
         have := isbad_any va vs vb many B nm W (HBB.out.keep (hbq.trans (hW.mono hbq.size)))
         rwa [hbd] at this
        cases all
        ·go_upto_region 21 with fail
         refine wpH_start (by kernel_rfl) (fun hS => ?_)
         refine wpH_row row_wd 0 (oi := ⟨some 174,.load 26 (.tmp 3),26,"law.go:92",#[],none⟩) rfl (by kernel_rfl) (by kernel_rfl) (by kernel_rfl) (by rfl) hS (vs := wdcs va vs many vb) (fun _ _ _ h => h) (.tmp 3) rfl rfl (rfl) (fun w' hb2 => N3q.keep hb2) ?_
         try simp only [pna,pnb,pnc,pnd,pne]
         (refine hP 1 ?_ ⟨some 175,.fieldAddr 52 (.tmp 11) 5,0,"",#[],none⟩ hS ?_ ?_; rotate_left; focus (intro w; go_simp; try with_reducible rfl))
         try simp only [pna,pnb,pnc,pnd,pne]
         refine wpH_load 2 (.slice (some ⟨g3,o3,none⟩) q.set.length sc2) (oi := ⟨some 176,.load 23 (.tmp 175),23,"law.go:92",#[⟨1,.data⟩],none⟩) rfl (by kernel_rfl) (by kernel_rfl) (by kernel_rfl) (by rfl) hS (fun _ _ _ h => h) (fun w' hb2 => (by have c := (N11.keep hb2).cell 15; simp only [ecs,List.getElem?_toArray,List.getElem?_cons_zero,List.getElem?_cons_succ] at c; go_simp; try rfl)) ?_
         try simp only [pna,pnb,pnc,pnd,pne]
         (refine hP 3 ?_ ⟨some 177,.move (.tmp 21),3,"",#[],none⟩ hS ?_ ?_; rotate_left; focus (intro w; go_simp; try with_reducible rfl))
         try simp only [pna,pnb,pnc,pnd,pne]
         (refine hP 4 ?_ ⟨some 178,.indexAddr 23 (.tmp 176) (.tmp 177),0,"",#[],none⟩ hS ?_ ?_; rotate_left; focus (intro w; go_simp; try with_reducible rfl))
         try simp only [pna,pnb,pnc,pnd,pne]
         (refine hP 5 ?_ ⟨some 179,.fieldAddr 77 (.tmp 178) 0,0,"",#[],none⟩ hS ?_ ?_; rotate_left; focus (intro w; go_simp; try with_reducible rfl))
         try simp only [pna,pnb,pnc,pnd,pne]
         refine wpH_load 6 (.string ⟨nm.toArray⟩) (oi := ⟨some 180,.load 9 (.tmp 179),9,"law.go:92",#[⟨5,.data⟩],none⟩) rfl (by kernel_rfl) (by kernel_rfl) (by kernel_rfl) (by rfl) hS (fun _ _ _ h => h) (fun w' hb2 => (by have c := (hb2.cell (p := ⟨g3,o3 + n * 2,none⟩) hg3).trans HC3.out; go_simp; try rfl)) ?_
         try simp only [pna,pnb,pnc,pnd,pne]
         refine wpH_call 7 (oi := ⟨some 181,.call { callee := .value (.func 16),args := #[.tmp 174,.tmp 180],argTypes := #[26,9] },4,"law.go:92",#[⟨0,.data⟩,⟨6,.data⟩],none⟩) rfl (by kernel_rfl) (by rfl) (qb _ hS) ?_ ?_
         ·(go_simp; try rfl)
         rintro e w' ⟨rfl,hbx⟩
         refine ⟨_,rfl,hS.trans (hbx.mono hS.size),?_⟩
         replace hS := hS.trans (hbx.mono hS.size)
         try simp only [pna,pnb,pnc,pnd,pne]
         (refine hP 8 ?_ ⟨some 182,.move (.tmp 181),4,"",#[],none⟩ hS ?_ ?_; rotate_left; focus (intro w; go_simp; try with_reducible rfl))
         try simp only [pna,pnb,pnc,pnd,pne]
         (first | (refine hN 9 ⟨some 183,.fieldAddr 29 (.tmp 5) 5,0,"",#[],some (8,false)⟩ hS ?_) | (refine hP 9 ?_ ⟨some 183,.fieldAddr 29 (.tmp 5) 5,0,"",#[],some (8,false)⟩ hS ?_ ?_; rotate_left; focus (intro w; go_simp; try with_reducible rfl)))
         try simp only [pna,pnb,pnc,pnd,pne]
         refine wpH_load 10 (.bool false) (oi := ⟨some 184,.load 4 (.tmp 183),4,"law.go:92",#[⟨9,.data⟩,⟨8,.guard⟩],some (8,false)⟩) rfl (by kernel_rfl) (by kernel_rfl) (by kernel_rfl) (by rfl) hS (fun _ _ _ h => h) (fun w' hb2 => (by have c := (N5q.keep hb2).cell 5; simp only [fkcs,List.getElem?_toArray,List.getElem?_cons_zero,List.getElem?_cons_succ] at c; go_simp; try rfl)) ?_
         try simp only [pna,pnb,pnc,pnd,pne]
         (refine hP 11 ?_ ⟨some 185,.pick (.tmp 182) (.const (.bool true)) (.tmp 184),4,"",#[],none⟩ hS ?_ ?_; rotate_left; focus (intro w; go_simp; try with_reducible rfl))
         try simp only [pna,pnb,pnc,pnd,pne]
         refine wpAnyH_done (by kernel_rfl) ?_ _
         obtain ⟨L,hTL,hOk⟩ := HT.out
         have hW4q := Nat.le_trans hTL.lt.2 (Nat.le_of_lt hTL.lt.1)
         have HBz := Lib.hid (HB.out.trans (hS.mono hW4q))
         have HOz := Lib.hid (HO.out.trans (OrF.below hS))
         have HTz : Hid (∃ L,Tab w' W4.heap.size p4 L ∧ TabOk2 E B dq false L) := Lib.hid ⟨L,hTL.keep hS,hOk⟩
         clear hTL hOk c5 N3q N5q r3 N11 hS c11 c3
         go_wp2_with fail
         exact ⟨⟨n + 1,by go_num,by omega,HTz,HBz,HOz⟩,by simp [intOf]; omega⟩
        ·go_upto_region 21 with fail
         refine wpH_start (by kernel_rfl) (fun hS => ?_)
         refine wpH_row row_wd 0 (oi := ⟨some 174,.load 26 (.tmp 3),26,"law.go:92",#[],none⟩) rfl (by kernel_rfl) (by kernel_rfl) (by kernel_rfl) (by rfl) hS (vs := wdcs va vs many vb) (fun _ _ _ h => h) (.tmp 3) rfl rfl (rfl) (fun w' hb2 => N3q.keep hb2) ?_
         try simp only [pna,pnb,pnc,pnd,pne]
         (refine hP 1 ?_ ⟨some 175,.fieldAddr 52 (.tmp 11) 5,0,"",#[],none⟩ hS ?_ ?_; rotate_left; focus (intro w; go_simp; try with_reducible rfl))
         try simp only [pna,pnb,pnc,pnd,pne]
         refine wpH_load 2 (.slice (some ⟨g3,o3,none⟩) q.set.length sc2) (oi := ⟨some 176,.load 23 (.tmp 175),23,"law.go:92",#[⟨1,.data⟩],none⟩) rfl (by kernel_rfl) (by kernel_rfl) (by kernel_rfl) (by rfl) hS (fun _ _ _ h => h) (fun w' hb2 => (by have c := (N11.keep hb2).cell 15; simp only [ecs,List.getElem?_toArray,List.getElem?_cons_zero,List.getElem?_cons_succ] at c; go_simp; try rfl)) ?_
         try simp only [pna,pnb,pnc,pnd,pne]
         (refine hP 3 ?_ ⟨some 177,.move (.tmp 21),3,"",#[],none⟩ hS ?_ ?_; rotate_left; focus (intro w; go_simp; try with_reducible rfl))
         try simp only [pna,pnb,pnc,pnd,pne]
         (refine hP 4 ?_ ⟨some 178,.indexAddr 23 (.tmp 176) (.tmp 177),0,"",#[],none⟩ hS ?_ ?_; rotate_left; focus (intro w; go_simp; try with_reducible rfl))
         try simp only [pna,pnb,pnc,pnd,pne]
         (refine hP 5 ?_ ⟨some 179,.fieldAddr 77 (.tmp 178) 0,0,"",#[],none⟩ hS ?_ ?_; rotate_left; focus (intro w; go_simp; try with_reducible rfl))
         try simp only [pna,pnb,pnc,pnd,pne]
         refine wpH_load 6 (.string ⟨nm.toArray⟩) (oi := ⟨some 180,.load 9 (.tmp 179),9,"law.go:92",#[⟨5,.data⟩],none⟩) rfl (by kernel_rfl) (by kernel_rfl) (by kernel_rfl) (by rfl) hS (fun _ _ _ h => h) (fun w' hb2 => (by have c := (hb2.cell (p := ⟨g3,o3 + n * 2,none⟩) hg3).trans HC3.out; go_simp; try rfl)) ?_
         try simp only [pna,pnb,pnc,pnd,pne]
         refine wpH_call 7 (oi := ⟨some 181,.call { callee := .value (.func 16),args := #[.tmp 174,.tmp 180],argTypes := #[26,9] },4,"law.go:92",#[⟨0,.data⟩,⟨6,.data⟩],none⟩) rfl (by kernel_rfl) (by rfl) (qb _ hS) ?_ ?_
         ·(go_simp; try rfl)
         rintro e w' ⟨rfl,hbx⟩
         refine ⟨_,rfl,hS.trans (hbx.mono hS.size),?_⟩
         replace hS := hS.trans (hbx.mono hS.size)
         try simp only [pna,pnb,pnc,pnd,pne]
         (refine hP 8 ?_ ⟨some 182,.move (.tmp 181),4,"",#[],none⟩ hS ?_ ?_; rotate_left; focus (intro w; go_simp; try with_reducible rfl))
         try simp only [pna,pnb,pnc,pnd,pne]
         (first | (refine hN 9 ⟨some 183,.fieldAddr 29 (.tmp 5) 5,0,"",#[],some (8,false)⟩ hS ?_) | (refine hP 9 ?_ ⟨some 183,.fieldAddr 29 (.tmp 5) 5,0,"",#[],some (8,false)⟩ hS ?_ ?_; rotate_left; focus (intro w; go_simp; try with_reducible rfl)))
         try simp only [pna,pnb,pnc,pnd,pne]
         refine wpH_load 10 (.bool true) (oi := ⟨some 184,.load 4 (.tmp 183),4,"law.go:92",#[⟨9,.data⟩,⟨8,.guard⟩],some (8,false)⟩) rfl (by kernel_rfl) (by kernel_rfl) (by kernel_rfl) (by rfl) hS (fun _ _ _ h => h) (fun w' hb2 => (by have c := (N5q.keep hb2).cell 5; simp only [fkcs,List.getElem?_toArray,List.getElem?_cons_zero,List.getElem?_cons_succ] at c; go_simp; try rfl)) ?_
         try simp only [pna,pnb,pnc,pnd,pne]
         (refine hP 11 ?_ ⟨some 185,.pick (.tmp 182) (.const (.bool true)) (.tmp 184),4,"",#[],none⟩ hS ?_ ?_; rotate_left; focus (intro w; go_simp; try with_reducible rfl))
         try simp only [pna,pnb,pnc,pnd,pne]
         refine wpAnyH_done (by kernel_rfl) ?_ _
         obtain ⟨L,hTL,hOk⟩ := HT.out
         have hW4q := Nat.le_trans hTL.lt.2 (Nat.le_of_lt hTL.lt.1)
         have HBz := Lib.hid (HB.out.trans (hS.mono hW4q))
         have HOz := Lib.hid (HO.out.trans (OrF.below hS))
         have qs := osignf_any W4.heap.size p4 L nm mk false (by omega) (by have := HML.out; omega) _ (hTL.keep hS)
         have HSG : Hid (TabOk2 E B dq true (signL L nm mk false).1) := Lib.hid (by have := hOk.sign nm false HMC.out (.inr rfl); rw [HMK.out] at this; exact this)
         have c11 := (N11.keep hS).cell 15
         simp only [ecs,List.getElem?_toArray,List.getElem?_cons_zero,List.getElem?_cons_succ] at c11
         have c3 := (hS.cell (p := ⟨g3,o3 + n * 2,none⟩) hg3).trans HC3.out
         clear hTL hOk c5 N3q N5q r3 N11 hS
         go_wp2_with fail
         refine qs.mono ?_
         rintro e wz ⟨rfl,hTz,hbz,hoz⟩
         go_wp2_with fail
         exact ⟨⟨n + 1,by go_num,by omega,Lib.hid ⟨_,hTz,HSG.out⟩,Lib.hid (HBz.out.trans hbz),Lib.hid (HOz.out.trans hoz)⟩,by simp [intOf]; omega⟩
       ·have qb : ∀ W,Below wq.heap.size wq W → Calls Tryz.prog 16 #[.agg (wdcs va vs many vb).toArray,.string ⟨nm.toArray⟩] W fun e w' => e = .returned (.bool true) ∧ Below W.heap.size W w' := fun W hW => by
         have := isbad_any va vs vb many B nm W (HBB.out.keep (hbq.trans (hW.mono hbq.size)))
         rwa [hbd] at this
        go_upto_region 21 with fail
        refine wpH_start (by kernel_rfl) (fun hS => ?_)
        refine wpH_row row_wd 0 (oi := ⟨some 174,.load 26 (.tmp 3),26,"law.go:92",#[],none⟩) rfl (by kernel_rfl) (by kernel_rfl) (by kernel_rfl) (by rfl) hS (vs := wdcs va vs many vb) (fun _ _ _ h => h) (.tmp 3) rfl rfl (rfl) (fun w' hb2 => N3q.keep hb2) ?_
        try simp only [pna,pnb,pnc,pnd,pne]
        (refine hP 1 ?_ ⟨some 175,.fieldAddr 52 (.tmp 11) 5,0,"",#[],none⟩ hS ?_ ?_; rotate_left; focus (intro w; go_simp; try with_reducible rfl))
        try simp only [pna,pnb,pnc,pnd,pne]
        refine wpH_load 2 (.slice (some ⟨g3,o3,none⟩) q.set.length sc2) (oi := ⟨some 176,.load 23 (.tmp 175),23,"law.go:92",#[⟨1,.data⟩],none⟩) rfl (by kernel_rfl) (by kernel_rfl) (by kernel_rfl) (by rfl) hS (fun _ _ _ h => h) (fun w' hb2 => (by have c := (N11.keep hb2).cell 15; simp only [ecs,List.getElem?_toArray,List.getElem?_cons_zero,List.getElem?_cons_succ] at c; go_simp; try rfl)) ?_
        try simp only [pna,pnb,pnc,pnd,pne]
        (refine hP 3 ?_ ⟨some 177,.move (.tmp 21),3,"",#[],none⟩ hS ?_ ?_; rotate_left; focus (intro w; go_simp; try with_reducible rfl))
        try simp only [pna,pnb,pnc,pnd,pne]
        (refine hP 4 ?_ ⟨some 178,.indexAddr 23 (.tmp 176) (.tmp 177),0,"",#[],none⟩ hS ?_ ?_; rotate_left; focus (intro w; go_simp; try with_reducible rfl))
        try simp only [pna,pnb,pnc,pnd,pne]
        (refine hP 5 ?_ ⟨some 179,.fieldAddr 77 (.tmp 178) 0,0,"",#[],none⟩ hS ?_ ?_; rotate_left; focus (intro w; go_simp; try with_reducible rfl))
        try simp only [pna,pnb,pnc,pnd,pne]
        refine wpH_load 6 (.string ⟨nm.toArray⟩) (oi := ⟨some 180,.load 9 (.tmp 179),9,"law.go:92",#[⟨5,.data⟩],none⟩) rfl (by kernel_rfl) (by kernel_rfl) (by kernel_rfl) (by rfl) hS (fun _ _ _ h => h) (fun w' hb2 => (by have c := (hb2.cell (p := ⟨g3,o3 + n * 2,none⟩) hg3).trans HC3.out; go_simp; try rfl)) ?_
        try simp only [pna,pnb,pnc,pnd,pne]
        refine wpH_call 7 (oi := ⟨some 181,.call { callee := .value (.func 16),args := #[.tmp 174,.tmp 180],argTypes := #[26,9] },4,"law.go:92",#[⟨0,.data⟩,⟨6,.data⟩],none⟩) rfl (by kernel_rfl) (by rfl) (qb _ hS) ?_ ?_
        ·(go_simp; try rfl)
        rintro e w' ⟨rfl,hbx⟩
        refine ⟨_,rfl,hS.trans (hbx.mono hS.size),?_⟩
        replace hS := hS.trans (hbx.mono hS.size)
        try simp only [pna,pnb,pnc,pnd,pne]
        (refine hP 8 ?_ ⟨some 182,.move (.tmp 181),4,"",#[],none⟩ hS ?_ ?_; rotate_left; focus (intro w; go_simp; try with_reducible rfl))
        try simp only [pna,pnb,pnc,pnd,pne]
        refine hN 9 ⟨some 183,.fieldAddr 29 (.tmp 5) 5,0,"",#[],some (8,false)⟩ hS ?_
        try simp only [pna,pnb,pnc,pnd,pne]
        refine hN 10 ⟨some 184,.load 4 (.tmp 183),4,"",#[],some (8,false)⟩ hS ?_
        try simp only [pna,pnb,pnc,pnd,pne]
        (refine hP 11 ?_ ⟨some 185,.pick (.tmp 182) (.const (.bool true)) (.tmp 184),4,"",#[],none⟩ hS ?_ ?_; rotate_left; focus (intro w; go_simp; try with_reducible rfl))
        try simp only [pna,pnb,pnc,pnd,pne]
        refine wpAnyH_done (by kernel_rfl) ?_ _
        obtain ⟨L,hTL,hOk⟩ := HT.out
        have hW4q := Nat.le_trans hTL.lt.2 (Nat.le_of_lt hTL.lt.1)
        have HBz := Lib.hid (HB.out.trans (hS.mono hW4q))
        have HOz := Lib.hid (HO.out.trans (OrF.below hS))
        have qs := osignf_any W4.heap.size p4 L nm mk false (by omega) (by have := HML.out; omega) _ (hTL.keep hS)
        have HSG : Hid (TabOk2 E B dq all (signL L nm mk false).1) := Lib.hid (by have := hOk.sign nm false HMC.out (.inl hbd); rw [HMK.out] at this; exact this)
        have c11 := (N11.keep hS).cell 15
        simp only [ecs,List.getElem?_toArray,List.getElem?_cons_zero,List.getElem?_cons_succ] at c11
        have c3 := (hS.cell (p := ⟨g3,o3 + n * 2,none⟩) hg3).trans HC3.out
        clear hTL hOk c5 N3q N5q r3 N11 hS
        go_wp2_with fail
        refine qs.mono ?_
        rintro e wz ⟨rfl,hTz,hbz,hoz⟩
        go_wp2_with fail
        exact ⟨⟨n + 1,by go_num,by omega,Lib.hid ⟨_,hTz,HSG.out⟩,Lib.hid (HBz.out.trans hbz),Lib.hid (HOz.out.trans hoz)⟩,by simp [intOf]; omega⟩
      ·(by_cases hm : mc = 0; focus (subst hm; have n0 : ¬ n < q.set.length := (fun h => hc ⟨rfl,h⟩); have n1 : decide ((n : Int) < (q.set.length : Int)) = false := (by simp; omega); have n2 : decide (n < q.set.length) = false := (by rw [decide_eq_false_iff_not]; omega); clear n0 hc hn; go_upto_region 23 with fail))
       rotate_left
       focus
        have m1 : (mc == 0) = false := by simpa using hm
        have m2 : decide (mc = 0) = false := by simpa using hm
        clear hm hc
        go_upto_region 23 with fail
        rotate_left
       all_goals
        have N12 := HN12.out.orf HF12.out HO.out
        have N14 := HN14.out.orf HF14.out HO.out
        have N6 := HN6.out.belowB HB.out (by omega)
        have N7 := HN7.out.belowB HB.out (by omega)
        have hA1 := HA1.out.orf HO.out HK67.out.2
        have hA2 := HA2.out.orf HO.out HKA.out
        have hbq : Below w.heap.size w wq := hb011.trans (HB.out.mono (by omega))
        obtain ⟨L,hTL,hOk⟩ := HT.out
        have hfr := HFR.out
        refine wpH_startM [w.heap.size + 1 + 1,w.heap.size + 1 + 1 + 1] (by kernel_rfl) (fun hS => ?_)
        refine wpH_row row_ans 0 (oi := ⟨some 195,.load 42 (.tmp 12),42,"law.go:96",#[],none⟩) rfl (by kernel_rfl) (by kernel_rfl) (by kernel_rfl) (by rfl) hS (vs := acs (i : Int) hv1 nv1 p.sum sg1) (fun _ _ _ h => h) (.tmp 12) rfl rfl (rfl) (fun w' hb2 => N12.mod hb2 (by simp; omega)) ?_
        try simp only [pna,pnb,pnc,pnd,pne]
        refine wpH_row row_ans 1 (oi := ⟨some 196,.load 42 (.tmp 14),42,"law.go:96",#[{ on := 3,ground := .gcOnly Departure.lateStores }],none⟩) rfl (by kernel_rfl) (by kernel_rfl) (by kernel_rfl) (by rfl) hS (vs := acs (j : Int) hv2 nv2 dq sg2) (fun _ _ _ h => h) (.tmp 14) rfl rfl (rfl) (fun w' hb2 => N14.mod hb2 (by simp; omega)) ?_
        try simp only [pna,pnb,pnc,pnd,pne]
        (refine hP 2 ?_ ⟨some 197,.move (.tmp 9),43,"",#[],none⟩ hS ?_ ?_; rotate_left; focus (intro w; go_simp; try with_reducible rfl))
        try simp only [pna,pnb,pnc,pnd,pne]
        refine wpH_op 3 (oi := ⟨none,.store 42 (.tmp 6) (.tmp 195),0,"law.go:96",#[⟨0,.data⟩,⟨0,.phase⟩,{ on := 1,ground := .textOnly Departure.lateStores },{ on := 2,ground := .textOnly Departure.lateStores }],none⟩) rfl (by kernel_rfl) (by rfl) ?_
        refine wp_rowS row_ans (.tmp 6) (.tmp 195) rfl rfl (vs := acs (i : Int) hv1 nv1 p.sum sg1) rfl rfl hA1.one (us := acs 0 (.slice none 0 0) (.slice none 0 0) [] (.slice none 0 0)) rfl N6.drew ?_
        intro w13 P6 m13
        refine ⟨hS.trans (m13.sub (by simp)),?_⟩
        replace hS := hS.trans (m13.sub (m := [w.heap.size + 1 + 1,w.heap.size + 1 + 1 + 1]) (by simp))
        try simp only [pna,pnb,pnc,pnd,pne]
        refine wpH_op 4 (oi := ⟨none,.store 42 (.tmp 7) (.tmp 196),0,"law.go:96",#[⟨1,.data⟩,⟨3,.chain⟩,⟨0,.phase⟩,⟨1,.phase⟩,{ on := 2,ground := .textOnly Departure.lateStores },⟨3,.phase⟩],none⟩) rfl (by kernel_rfl) (by rfl) ?_
        refine wp_rowS row_ans (.tmp 7) (.tmp 196) rfl rfl (vs := acs (j : Int) hv2 nv2 dq sg2) rfl rfl hA2.one (us := acs 0 (.slice none 0 0) (.slice none 0 0) [] (.slice none 0 0)) rfl (N7.drew.mod m13 (by simp)) ?_
        intro w14 P7 m14
        refine ⟨hS.trans (m14.sub (by simp)),?_⟩
        replace hS := hS.trans (m14.sub (m := [w.heap.size + 1 + 1,w.heap.size + 1 + 1 + 1]) (by simp))
        try simp only [pna,pnb,pnc,pnd,pne]
        (refine hP 5 ?_ ⟨some 8,.assign (.tmp 197),43,"",#[],none⟩ hS ?_ ?_; rotate_left; focus (intro w; go_simp; try with_reducible rfl))
        try simp only [pna,pnb,pnc,pnd,pne]
        refine wpAnyH_done (by kernel_rfl) ?_ _
        have P6 := P6.mod m14 (by simp)
        have hdr : Below wq.heap.size wq wq.drew := (Below.refl _ _).drew
        have hbe := Below.mod (Below.mod hbq.drew m13 (by have := hbq.size; exact this) (by simp; omega)) m14 (by have h1 := hbq.size; have h2 := m13.size; exact Nat.le_trans h1 h2) (by simp; omega)
        have hTE := ((hTL.keep hdr).mod1 m13 (by omega)).mod1 m14 (by omega)
        have hA1 := ((hA1.keep hdr).mod1 m13 (by have := HK67.out.2; omega)).mod1 m14 (by have := HK67.out.2; omega)
        have hA2 := ((hA2.keep hdr).mod1 m13 (by have := HKA.out; omega)).mod1 m14 (by have := HKA.out; omega)
        clear m13 m14 hdr N6 N7 N12 N14 N11 c11 hTL hS
        go_wp2_with fail
        refine bodyPost_ret (results_c2 rfl _ _ _ _ _ _ rfl rfl (row_loadVar row_ans _ rfl P6) (row_loadVar row_ans _ rfl P7)) rfl ?_
        refine ⟨i,j,p,q,qh,.slice ka p.head.skips.length kc,.slice ka2 q.head.skips.length kc2,hv1,nv1,sg1,hv2,nv2,sg2,W4.heap.size,p4,L,HIE.out.symm,hp,hq,⟨vw,HQE.out⟩,by rw [HDQ.out]; rfl,hA1.r (HAT.out.1.keep hbe),hA2.r (by rw [hq2]; exact HAT2.out.1.keep hbe),hTE,by omega,by rw [HDQ.out]; exact hOk,hbe⟩
end Go.Proofs.YthkpmlfaddlieaaGreatDoor
