/- RdecP, DecLaw, LoadP. -/
import Derived.Test.YtjppbomngnomhaaGreatDoorMx10
import Derived.Test.YtjppbomngnomhaaGreatDoorMx15
set_option linter.unnecessarySimpa false
set_option linter.unusedSimpArgs false
set_option linter.unusedVariables false
set_option maxRecDepth 100000
set_option maxHeartbeats 32000000
namespace Go.Proofs.YtjppbomngnomhaaGreatDoor
namespace Pl
def rfinC (s : Bs) (x : Nd × Bs × Int) : Prop := x.2.2 = 0 ∧ fineR x.1.kind x.1.path x.1.val x.1.kid = true ∧ enc x.1.kind x.1.path x.1.val x.1.kid = s
instance (s : Bs) (x : Nd × Bs × Int) : Decidable (rfinC s x) := by unfold rfinC; infer_instance
def rfin (s : Bs) (x : Nd × Bs × Int) : Nd × Int := if rfinC s x then (x.1, 0) else (ndZ, 80)
def qL (r : Bs) : Nd × Bs × Int :=
 (⟨1, (unpack (mText r 0 100).1).1, (mText (mText r 0 100).2.1 (mText r 0 100).2.2 32).1, noK⟩, (mText (mText r 0 100).2.1 (mText r 0 100).2.2 32).2)
def qE (k : Int) (r : Bs) : Nd × Bs × Int :=
 (⟨k, (unpack (mText r 0 100).1).1, [], upd noK 0 (mBytes (mText r 0 100).2.1 (mText r 0 100).2.2 32).1⟩, (mBytes (mText r 0 100).2.1 (mText r 0 100).2.2 32).2)
def rdec : Bs → Nd × Int
 | [] => (ndZ, 80)
 | k :: r =>
  if k = 3 then match r with
   | a :: b :: r' => rfin (3 :: a :: b :: r') (rdB (a.toNat * 256 + b.toNat) r')
   | _ => (ndZ, 80)
  else if (unpack (mText r 0 100).1).2.2 ≠ 0 then (ndZ, 80)
  else if k = 1 then rfin (1 :: r) (qL r)
  else rfin (k :: r) (qE k.toNat r)
theorem tx_more (r : Bs) (h : (tx r 16).2.2 = 0) : tx r 100 = tx r 16 := by
 unfold tx at h ⊢
 split at h
 ·rename_i h1; exact absurd h h1
 ·rename_i h1
  rw [if_neg h1, if_neg h1]
  split at h
  ·cases h
  ·rename_i h2
   rw [if_neg h2, if_neg (by omega)]
theorem mText_more (r : Bs) (h : (mText r 0 16).2.2 = 0) : mText r 0 100 = mText r 0 16 := by
 have h2 : (tx r 16).2.2 = 0 := by
  unfold mText at h
  split at h
  ·rename_i h1; exact absurd rfl h1
  ·split at h
   ·exact h
   ·rename_i h1; exact Decidable.not_not.1 h1
 unfold mText
 rw [tx_more r h2]
theorem mEnd_zero {s : Bs} {c : Int} (h : mEnd s c = 0) : c = 0 ∧ s = [] := by
 unfold mEnd at h
 split at h
 ·cases h
 ·rename_i h1
  subst h
  exact ⟨rfl, by simpa using h1⟩
theorem rfin_dec (s : Bs) (x : Nd × Bs × Int) (hk : ∀ i, 16 ≤ i → x.1.kid i = []) (h : rfinC s x) : dec s = (x.1, 0) := by
 obtain ⟨h1, h2, h3⟩ := h
 rw [fine_chk] at h2
 have h4 := rdN_enc _ _ _ _ h2 []
 rw [List.append_nil, h3] at h4
 have hc : cut x.1.kid 16 = x.1.kid := by
  funext i
  unfold cut
  split
  ·rfl
  ·exact (hk i (by omega)).symm
 rw [hc] at h4
 rw [dec_rdN, h4]
 unfold decEnd
 rw [if_pos ⟨by simp [mEnd], rfl, h2⟩]
theorem rfin_join (s : Bs) (x y : Nd × Bs × Int) (f : Bool) (hk : ∀ i, 16 ≤ i → x.1.kid i = []) (hd : dec s = decEnd y f)
  (h : mEnd y.2.1 y.2.2 = 0 → f = true → chk y.1.kind y.1.path y.1.val y.1.kid = true → x = y ∧ enc y.1.kind y.1.path y.1.val y.1.kid = s) : rfin s x = dec s := by
 by_cases hc : rfinC s x
 ·rw [rfin, if_pos hc, rfin_dec s x hk hc]
 ·rw [rfin, if_neg hc, hd, decEnd, if_neg]
  rintro ⟨h1, h2, h3⟩
  obtain ⟨h4, h5⟩ := h h1 h2 h3
  subst h4
  exact hc ⟨(mEnd_zero h1).1, by rw [fine_chk]; exact h3, h5⟩
theorem chk_kind {k : Int} {p v : Bs} {kid : Nat → Bs} (h : chk k p v kid = true) (h1 : k ≠ 1) (h3 : k ≠ 3) : k = 2 := by
 by_cases h2 : k = 2
 ·exact h2
 ·unfold chk at h
  rw [if_neg h1, if_neg h2, if_neg h3] at h; cases h
theorem rdec_dec (s : Bs) : rdec s = dec s := by
 match s with
 | [] => rfl
 | k :: r =>
  by_cases h3 : k = 3
  ·subst h3
   match r with
   | [] => rfl
   | [x] => rfl
   | a :: b :: r' =>
    rw [show rdec (3 :: a :: b :: r') = rfin (3 :: a :: b :: r') (rdB (a.toNat * 256 + b.toNat) r') from by simp [rdec]]
    refine rfin_join _ _ (rdB (a.toNat * 256 + b.toNat) r') true (fun i hi => rdKids_same _ _ _ 16 i hi) (by simp [dec]) ?_
    intro h1 _ h4
    obtain ⟨h5, h6⟩ := mEnd_zero h1
    have h7 := rdB_eats a b r' h5
    rw [h6, List.append_nil] at h7
    exact ⟨rfl, h7.symm⟩
  ·by_cases h1 : k = 1
   ·subst h1
    have hd : dec (1 :: r) = decEnd (rdL r 0) (decide ((unpack (mText r 0 16).1).2.2 = 0) && (unpack (mText r 0 16).1).2.1) := by simp [dec]
    have hq : (unpack (mText r 0 100).1).2.2 = 0 → rdec (1 :: r) = rfin (1 :: r) (qL r) := fun h => by simp [rdec, h]
    have hn : (unpack (mText r 0 100).1).2.2 ≠ 0 → rdec (1 :: r) = (ndZ, 80) := fun h => by simp [rdec, h]
    by_cases hu : (unpack (mText r 0 100).1).2.2 = 0
    ·rw [hq hu]
     refine rfin_join _ _ _ _ (fun i _ => rfl) hd ?_
     intro g1 g2 g3
     obtain ⟨h5, h6⟩ := mEnd_zero g1
     obtain ⟨e1, _, _⟩ := mText_eats (mText r 0 16).2.1 (mText r 0 16).2.2 32 h5
     simp at g2
     have h7 := rdL_eats r h5 g2.1 g2.2
     rw [h6, List.append_nil] at h7
     have hm := mText_more r e1
     exact ⟨by unfold qL rdL; rw [hm, e1], h7.symm⟩
    ·rw [hn hu, hd, decEnd, if_neg]
     rintro ⟨g1, g2, g3⟩
     obtain ⟨h5, h6⟩ := mEnd_zero g1
     obtain ⟨e1, _, _⟩ := mText_eats (mText r 0 16).2.1 (mText r 0 16).2.2 32 h5
     rw [mText_more r e1] at hu
     simp at g2
     exact hu g2.1
   ·have hd : dec (k :: r) = decEnd (rdE k.toNat r 0) (decide ((unpack (mText r 0 16).1).2.2 = 0) && !(unpack (mText r 0 16).1).2.1) := by simp [dec, h1, h3]
    have hq : (unpack (mText r 0 100).1).2.2 = 0 → rdec (k :: r) = rfin (k :: r) (qE k.toNat r) := fun h => by simp [rdec, h, h1, h3]
    have hn : (unpack (mText r 0 100).1).2.2 ≠ 0 → rdec (k :: r) = (ndZ, 80) := fun h => by simp [rdec, h, h3]
    have hk1 : (k.toNat : Int) ≠ 1 := fun e => h1 (by rw [← UInt8.toNat_inj]; simp; omega)
    have hk3 : (k.toNat : Int) ≠ 3 := fun e => h3 (by rw [← UInt8.toNat_inj]; simp; omega)
    by_cases hu : (unpack (mText r 0 100).1).2.2 = 0
    ·rw [hq hu]
     refine rfin_join _ _ _ _ (fun i hi => by simp only [qE, upd]; rw [if_neg (by omega)]; rfl) hd ?_
     intro g1 g2 g3
     have hk2 : (k.toNat : Int) = 2 := chk_kind g3 hk1 hk3
     have hk : k = 2 := by rw [← UInt8.toNat_inj]; simp; omega
     subst hk
     obtain ⟨h5, h6⟩ := mEnd_zero g1
     obtain ⟨e1, _, _⟩ := mBytes_eats (mText r 0 16).2.1 (mText r 0 16).2.2 32 h5
     simp at g2
     have h7 := rdE_eats r h5 g2.1 g2.2
     have h6' : (rdE 2 r 0).2.1 = [] := h6
     rw [h6', List.append_nil] at h7
     have hm := mText_more r e1
     exact ⟨by unfold qE rdE; rw [hm, e1], h7.symm⟩
    ·rw [hn hu, hd, decEnd, if_neg]
     rintro ⟨g1, g2, g3⟩
     obtain ⟨h5, h6⟩ := mEnd_zero g1
     obtain ⟨e1, _, _⟩ := mBytes_eats (mText r 0 16).2.1 (mText r 0 16).2.2 32 h5
     rw [mText_more r e1] at hu
     simp at g2
     exact hu g2.1
end Pl
end Go.Proofs.YtjppbomngnomhaaGreatDoor
namespace Go.Proofs.YtjppbomngnomhaaGreatDoor
namespace Pl
theorem rfin_two (s : Bs) (x : Nd × Bs × Int) : (∃ y : Nd, rfin s x = (y, 0) ∧ chk y.kind y.path y.val y.kid = true ∧ enc y.kind y.path y.val y.kid = s) ∨ rfin s x = (ndZ, 80) := by
 by_cases h : rfinC s x
 ·exact .inl ⟨x.1, by rw [rfin, if_pos h], by rw [← fine_chk]; exact h.2.1, h.2.2⟩
 ·exact .inr (by rw [rfin, if_neg h])
theorem dec_two (s : Bs) : (∃ y : Nd, dec s = (y, 0) ∧ chk y.kind y.path y.val y.kid = true ∧ enc y.kind y.path y.val y.kid = s) ∨ dec s = (ndZ, 80) := by
 rw [← rdec_dec]
 match s with
 | [] => exact .inr rfl
 | k :: r =>
  by_cases h3 : k = 3
  ·subst h3
   match r with
   | [] => exact .inr rfl
   | [x] => exact .inr rfl
   | a :: b :: r' =>
    rw [show rdec (3 :: a :: b :: r') = rfin (3 :: a :: b :: r') (rdB (a.toNat * 256 + b.toNat) r') from by simp [rdec]]
    exact rfin_two _ _
  ·rw [show rdec (k :: r) = if (unpack (mText r 0 100).1).2.2 ≠ 0 then (ndZ, 80) else if k = 1 then rfin (1 :: r) (qL r) else rfin (k :: r) (qE k.toNat r) from by simp [rdec, h3]]
   split
   ·exact .inr rfl
   ·split
    ·subst_vars; exact rfin_two _ _
    ·exact rfin_two _ _
theorem dec_enc (k : Int) (p v : Bs) (kid : Nat → Bs) (h : chk k p v kid = true) : dec (enc k p v kid) = (⟨k, p, v, cut kid 16⟩, 0) := by
 have h4 := rdN_enc _ _ _ _ h []
 rw [List.append_nil] at h4
 rw [dec_rdN, h4]
 unfold decEnd
 have hc : chk k p v (cut kid 16) = true := by
  rw [← h]
  exact chk_of (fun i hi => by simp [cut, hi])
 rw [if_pos ⟨by simp [mEnd], rfl, hc⟩]
end Pl
end Go.Proofs.YtjppbomngnomhaaGreatDoor
namespace Go.Proofs.YtjppbomngnomhaaGreatDoor
open Pl
def kidT (t : Tri) : Nat → Bs := kidF fun i => sumT (kidsOf t i)
def chkT (t : Tri) : Bool := chk (kindT t) (pathT t) (valT t) (kidT t)
theorem sum_text {t : Tri} (h : t ≠ .nil) (hc : chkT t = true) : sumT t = tagP 1 (textT t) := by
 unfold chkT kidT at hc
 rw [sumT_knot t h]
 unfold dgP textT encR
 rw [if_pos hc, if_pos hc]
theorem text_enc {t : Tri} (hc : chkT t = true) : textT t = enc (kindT t) (pathT t) (valT t) (kidT t) := by
 unfold chkT kidT at hc
 unfold textT encR kidT
 rw [if_pos hc]
theorem sum_len {t : Tri} (h : t ≠ .nil) (hc : chkT t = true) : (sumT t).length = 32 := by
 rw [sum_text h hc]; exact tagP_len _ _
theorem kids_allT {kid : Nat → Bs} (h : ∀ i, i < 16 → kid i ≠ [] → (kid i).length = 32) : all32 (kidsF kid) = true := by
 unfold all32 kidsF kidsTo
 rw [List.all_eq_true]
 intro s hs
 rw [List.mem_filter, List.mem_map] at hs
 obtain ⟨⟨i, hi, rfl⟩, hn⟩ := hs
 rw [decide_eq_true_eq]
 exact h i (List.mem_range.1 hi) (by simpa using hn)
theorem kids_cnt (f : Nat → Tri) (g : Nat → Bs) (h : ∀ i, i < 16 → (g i = [] ↔ f i = .nil)) : ∀ n, n ≤ 16 → (kidsTo g n).length = liveK f n
 | 0, _ => by simp [kidsTo, liveK]
 | n + 1, hn => by
  rw [kidsTo_succ, List.length_append, kids_cnt f g h n (by omega)]
  have h1 := h n (by omega)
  simp only [liveK]
  by_cases e : f n = .nil
  ·rw [if_pos (h1.2 e), if_pos ((isN_iff _).2 e)]; rfl
  ·rw [if_neg (fun x => e (h1.1 x)), if_neg (fun x => e ((isN_iff _).1 x))]; rfl
theorem kidT_at (t : Tri) (i : Nat) (hi : i < 16) : kidT t i = sumT (kidsOf t i) := by simp [kidT, kidF, hi]
theorem kidT_out (t : Tri) (i : Nat) (hi : 16 ≤ i) : kidT t i = [] := by simp [kidT, kidF]; omega
theorem chk_can : ∀ (t : Tri) (n : Nat), n ≤ 16 → okT t n → canT t → t ≠ .nil → chkT t = true
 | .nil, _, _, _, _, h => absurd rfl h
 | .leaf p v, n, hn, hk, hc, _ => by
  have e : kidT (.leaf p v) = noK := by
   funext i
   simp [kidT, kidF, kidsOf, noT, sumT, noK]
  unfold chkT
  rw [e]
  have h1 := hk.2
  simp only [kindT, pathT, valT, chk, if_true]
  have e2 : noKids noK = true := by decide
  rw [e2]
  have h3 : v.isEmpty = false := by simpa using hc.1
  have h4 := hc.2
  have h5 := hk.1
  simp [pathOk, h3, h4, h5]
  omega
 | .ext p t, n, hn, hk, hc, _ => by
  have ih := chk_can t (n - p.length) (by omega) hk.2.2.2 hc.2 hk.2.2.1.1
  have hl := sum_len hk.2.2.1.1 ih
  unfold chkT
  have e0 : kidT (.ext p t) 0 = sumT t := by rw [kidT_at _ 0 (by omega)]; rfl
  have e1 : ∀ i, 1 ≤ i → kidT (.ext p t) i = [] := fun i hi => by
   by_cases h : i < 16
   ·rw [kidT_at _ i h]
    simp only [kidsOf, updT, noT]
    rw [if_neg (by omega)]; rfl
   ·exact kidT_out _ _ (by omega)
  simp only [kindT, pathT, valT, chk]
  have e2 : oneKidX (kidT (.ext p t)) (kidT (.ext p t) 0) = true := by
   unfold oneKidX sameL kidL
   rw [decide_eq_true_eq]
   rw [show List.range 16 = 0 :: (List.range 15).map (· + 1) from rfl, List.map_cons, List.map_map]
   congr 1
  have h5 := hk.1
  have h6 := hk.2.1
  have h7 : 1 ≤ p.length := by
   rcases Nat.eq_zero_or_pos p.length with h | h
   ·exact absurd (List.length_eq_zero_iff.1 h) hk.2.2.1.2
   ·exact h
  rw [e2, e0]
  simp [all32, hl, pathOk, h5]
  omega
 | .br v kids, n, hn, hk, hc, _ => by
  have ih : ∀ i, kids i ≠ .nil → (sumT (kids i)).length = 32 := fun i h => by
   obtain ⟨_, h2, h3⟩ := (hk i).resolve_left h
   exact sum_len h (chk_can (kids i) (n - 1) (by omega) h3 (hc.2.2 i) h)
  unfold chkT
  simp only [kindT, pathT, valT, chk]
  have h1 : all32 (kidsF (kidT (.br v kids))) = true := kids_allT (fun i hi h => by
   rw [kidT_at _ i hi] at h ⊢
   exact ih i (fun e => h (by rw [show kidsOf (.br v kids) i = kids i from rfl, e]; rfl)))
  have h2 : (kidsF (kidT (.br v kids))).length = liveK kids 16 := kids_cnt kids _ (fun i hi => by
   rw [kidT_at _ i hi]
   show sumT (kids i) = [] ↔ _
   constructor
   ·intro e
    rcases Classical.em (kids i = .nil) with h | h
    ·exact h
    ·have := ih i h
     rw [e] at this; cases this
   ·intro e; rw [e]; rfl) 16 (by omega)
  have h3 := hc.2.1
  have h4 := hc.1
  rw [h1, h2]
  have h5 : (if v.isEmpty = true then 0 else 1) = hasV v := by unfold hasV; cases v <;> simp
  rw [← h5] at h3
  rw [if_neg (by decide), if_neg (by decide), if_pos trivial]
  simp only [Bool.and_eq_true, decide_eq_true_eq]
  exact ⟨⟨⟨rfl, trivial⟩, decide_eq_true h3⟩, decide_eq_true h4⟩
def nodesT : Tri → List Bs
 | .nil => []
 | .leaf p v => [textT (.leaf p v)]
 | .ext p t => textT (.ext p t) :: nodesT t
 | .br v kids => textT (.br v kids) :: (List.range 16).flatMap fun i => nodesT (kids i)
abbrev LSt := Nat × Int
def itemL (lg : Nat) (st : LSt) : Bool × LSt :=
 if lg = 0 ∨ lg % 2 = 1 then (false, (st.1, 4)) else if 1024 < st.1 + 1 then (false, (st.1 + 1, 2)) else (true, (st.1 + 1, st.2))
def loopK (g : Bs → LSt → Tri × LSt) (kid : Nat → Bs) (st : LSt) : Nat → (Nat → Tri) × LSt
 | 0 => (noT, st)
 | i + 1 => if kid i = [] then loopK g kid st i else (updT (loopK g kid st i).1 i (g (kid i) (loopK g kid st i).2).1, (g (kid i) (loopK g kid st i).2).2)
def triOf (n : Nd) (K : Nat → Tri) : Tri := if n.kind = 1 then .leaf n.path n.val else if n.kind = 2 then .ext n.path (K 0) else .br n.val K
def innerL (n : Nd) : Bool := n.kind == 3 && !noKids n.kid
def badL (n : Nd) (pl : Nat) (bel : Bool) : Bool := (bel && n.kind != 3) || decide (16 < pl + n.path.length) || (innerL n && decide (16 ≤ pl + n.path.length))
def ownL (n : Nd) (pl : Nat) (st : LSt) : Bool × LSt := if n.val = [] then (true, st) else itemL (pl + n.path.length) st
def atL (n : Nd) (pl : Nat) : Nat := if n.kind = 2 then pl + n.path.length else pl + 1
def loadN (g : Bs → LSt → Tri × LSt) (n : Nd) (pl : Nat) (bel : Bool) (st : LSt) : Tri × LSt :=
 if badL n pl bel then (.nil, (st.1, 4))
 else if (ownL n pl st).1 = false then (.nil, (ownL n pl st).2)
 else if (loopK g n.kid (ownL n pl st).2 16).2.2 ≠ 0 then (.nil, (loopK g n.kid (ownL n pl st).2 16).2)
 else (triOf n (loopK g n.kid (ownL n pl st).2 16).1, (loopK g n.kid (ownL n pl st).2 16).2)
def loadK (T : List Ent) : Nat → Bs → Nat → Bool → LSt → Tri × LSt
 | 0, _, _, _, st => (.nil, if st.2 = 0 then (st.1, 4) else st)
 | f + 1, s, pl, bel, st =>
  if st.2 ≠ 0 then (.nil, st)
  else if (nodeT T s).2 ≠ 0 then (.nil, (st.1, (nodeT T s).2))
  else loadN (fun s' st' => loadK T f s' (atL (nodeT T s).1 pl) ((nodeT T s).1.kind == 2) st') (nodeT T s).1 pl bel st
theorem loadK_err (T : List Ent) (f : Nat) (s : Bs) (pl : Nat) (bel : Bool) (st : LSt) (h : st.2 ≠ 0) : loadK T f s pl bel st = (.nil, st) := by
 cases f with
 | zero => simp [loadK, h]
 | succ f => simp only [loadK]; rw [if_pos h]
structure LOk (pl : Nat) (bel : Bool) (m : Nat) (r : Tri × LSt) : Prop where
 bad : r.2.2 ≠ 0 → r.1 = .nil
 ok : r.2.2 = 0 → okT r.1 (16 - pl)
 ne : r.2.2 = 0 → r.1 ≠ .nil
 even : r.2.2 = 0 → ∀ x ∈ rp r.1, (pl + x.1.length) % 2 = 0
 many : r.2.2 = 0 → r.2.1 = m + (rp r.1).length ∧ (m ≤ 1024 → r.2.1 ≤ 1024)
theorem node_two (T : List Ent) (s : Bs) (h : (nodeT T s).2 = 0) : chk (nodeT T s).1.kind (nodeT T s).1.path (nodeT T s).1.val (nodeT T s).1.kid = true := by
 unfold nodeT at h ⊢
 split at h
 ·rename_i hin
  rw [if_pos hin]
  rcases dec_two ((getT T s).getD []) with ⟨y, e, h1, _⟩ | e
  ·rw [e]; exact h1
  ·rw [e] at h; cases h
 ·cases h
structure LpOk (pl m : Nat) (kid : Nat → Bs) (k : Nat) (r : (Nat → Tri) × LSt) : Prop where
 out : ∀ i, k ≤ i → r.1 i = .nil
 no : ∀ i, kid i = [] → r.1 i = .nil
 ok : r.2.2 = 0 → ∀ i, i < k → okT (r.1 i) (16 - pl)
 ne : r.2.2 = 0 → ∀ i, i < k → kid i ≠ [] → r.1 i ≠ .nil
 even : r.2.2 = 0 → ∀ i, i < k → ∀ x ∈ rp (r.1 i), (pl + x.1.length) % 2 = 0
 many : r.2.2 = 0 → r.2.1 = m + cntT r.1 k ∧ (m ≤ 1024 → r.2.1 ≤ 1024)
theorem cnt_out (f : Nat → Tri) (k : Nat) (t : Tri) : ∀ n, n ≤ k → cntT (updT f k t) n = cntT f n
 | 0, _ => rfl
 | n + 1, h => by
  have e := updT_ne f k t n (by omega)
  simp only [cntT, cnt_out f k t n (by omega), e]
theorem loop_ok (g : Bs → LSt → Tri × LSt) (pl : Nat) (bel : Bool) (hg : ∀ s st, st.2 = 0 → LOk pl bel st.1 (g s st)) (he : ∀ s st, st.2 ≠ 0 → g s st = (.nil, st)) (kid : Nat → Bs) (m : Nat) : ∀ k, LpOk pl m kid k (loopK g kid (m, 0) k)
 | 0 => ⟨fun i _ => rfl, fun i _ => rfl, fun _ i hi => by omega, fun _ i hi => by omega, fun _ i hi => by omega, fun _ => ⟨by simp [loopK, cntT], fun h => h⟩⟩
 | k + 1 => by
  have ih := loop_ok g pl bel hg he kid m k
  simp only [loopK]
  by_cases hk : kid k = []
  ·rw [if_pos hk]
   generalize loopK g kid (m, 0) k = r at *
   have hn := ih.no k hk
   refine ⟨fun i hi => ih.out i (by omega), ih.no, fun h i hi => ?_, fun h i hi hne => ?_, fun h i hi => ?_, fun h => ?_⟩
   ·by_cases e : i = k
    ·subst e; rw [hn]; trivial
    ·exact ih.ok h i (by omega)
   ·by_cases e : i = k
    ·subst e; exact absurd hk hne
    ·exact ih.ne h i (by omega) hne
   ·by_cases e : i = k
    ·subst e; rw [hn]; intro x hx; cases hx
    ·exact ih.even h i (by omega)
   ·have h1 := ih.many h
    simp only [cntT, hn]
    exact h1
  ·rw [if_neg hk]
   generalize loopK g kid (m, 0) k = r at *
   obtain ⟨K, st⟩ := r
   by_cases hs : st.2 = 0
   ·have h1 := hg (kid k) st hs
    have hm := ih.many hs
    generalize g (kid k) st = q at *
    refine ⟨fun i hi => ?_, fun i hi => ?_, fun h i hi => ?_, fun h i hi hne => ?_, fun h i hi => ?_, fun h => ?_⟩
    ·simp only; rw [updT_ne _ _ _ _ (by omega)]; exact ih.out i (by omega)
    ·have e : i ≠ k := fun e => hk (e ▸ hi)
     simp only; rw [updT_ne _ _ _ _ e]; exact ih.no i hi
    ·by_cases e : i = k
     ·subst e; simp only; rw [updT_eq]; exact h1.ok h
     ·simp only; rw [updT_ne _ _ _ _ e]; exact ih.ok hs i (by omega)
    ·by_cases e : i = k
     ·subst e; simp only; rw [updT_eq]; exact h1.ne h
     ·simp only; rw [updT_ne _ _ _ _ e]; exact ih.ne hs i (by omega) hne
    ·by_cases e : i = k
     ·subst e; simp only; rw [updT_eq]; exact h1.even h
     ·simp only; rw [updT_ne _ _ _ _ e]; exact ih.even hs i (by omega)
    ·have h2 := h1.many h
     simp only [cntT, cnt_out _ _ _ k (Nat.le_refl _), updT_eq]
     simp only at hm
     exact ⟨by omega, fun h => h2.2 (hm.2 h)⟩
   ·have h1 := he (kid k) st hs
    rw [h1]
    refine ⟨fun i hi => ?_, fun i hi => ?_, fun h => absurd h hs, fun h => absurd h hs, fun h => absurd h hs, fun h => absurd h hs⟩
    ·simp only; rw [updT_ne _ _ _ _ (by omega)]; exact ih.out i (by omega)
    ·have e : i ≠ k := fun e => hk (e ▸ hi)
     simp only; rw [updT_ne _ _ _ _ e]; exact ih.no i hi
theorem noKids_all {kid : Nat → Bs} (h : noKids kid = true) : ∀ i, i < 16 → kid i = [] := by
 intro i hi
 unfold noKids sameL kidL at h
 rw [decide_eq_true_eq] at h
 have := congrArg (fun l => l[i]?) h
 simp only [List.getElem?_map, List.getElem?_range hi, Option.map_some, List.getElem?_replicate, if_pos hi] at this
 injection this
theorem oneKid_all {kid : Nat → Bs} {x : Bs} (h : oneKidX kid x = true) : kid 0 = x ∧ ∀ i, 1 ≤ i → i < 16 → kid i = [] := by
 unfold oneKidX sameL kidL at h
 rw [decide_eq_true_eq] at h
 refine ⟨?_, fun i h1 hi => ?_⟩
 ·have := congrArg (fun l => l[0]?) h
  simp only [List.getElem?_map, List.getElem?_range (show 0 < 16 by omega), Option.map_some, List.getElem?_cons_zero] at this
  injection this
 ·have := congrArg (fun l => l[i]?) h
  obtain ⟨j, rfl⟩ : ∃ j, i = j + 1 := ⟨i - 1, by omega⟩
  simp only [List.getElem?_map, List.getElem?_range hi, Option.map_some, List.getElem?_cons_succ, List.getElem?_replicate, if_pos (show j < 15 by omega)] at this
  injection this
theorem fit_of_path {p : Bs} {k : Int} (h : pathOk p k = true) : fit p = true ∧ k ≤ p.length := by
 unfold pathOk at h
 simp only [Bool.and_eq_true, decide_eq_true_eq] at h
 exact ⟨h.1.1, h.1.2⟩
theorem itemL_yes {lg : Nat} {st : LSt} (h : (itemL lg st).1 = true) : lg % 2 = 0 ∧ lg ≠ 0 ∧ (itemL lg st).2 = (st.1 + 1, st.2) ∧ st.1 + 1 ≤ 1024 := by
 unfold itemL at h ⊢
 split at h
 ·cases h
 ·split at h
  ·cases h
  ·rw [if_neg (by assumption), if_neg (by assumption)]
   exact ⟨by omega, by omega, rfl, by omega⟩
theorem itemL_no {lg : Nat} {st : LSt} (h : (itemL lg st).1 = false) : (itemL lg st).2.2 ≠ 0 := by
 unfold itemL at h ⊢
 split
 ·simp
 ·split
  ·simp
  ·rename_i h1 h2
   rw [if_neg h1, if_neg h2] at h
   cases h
theorem load_ok (T : List Ent) : ∀ (f : Nat) (s : Bs) (pl : Nat) (bel : Bool) (st : LSt), pl ≤ 16 → 17 ≤ pl + f → st.2 = 0 → LOk pl bel st.1 (loadK T f s pl bel st)
 | 0, s, pl, bel, st, h1, h2, _ => by omega
 | f + 1, s, pl, bel, st, hp, hf, hst => by
  have ih := load_ok T f
  obtain ⟨m, c⟩ := st
  simp only at hst
  subst hst
  simp only [loadK]
  rw [if_neg (by simp)]
  by_cases hn : (nodeT T s).2 = 0
  rotate_left
  ·rw [if_pos hn]
   exact ⟨fun _ => rfl, fun h => absurd h hn, fun h => absurd h hn, fun h => absurd h hn, fun h => absurd h hn⟩
  rw [if_neg (by simpa using hn)]
  have hc := node_two T s hn
  generalize (nodeT T s).1 = n at *
  unfold loadN
  cases hb : badL n pl bel
  rotate_left
  ·rw [if_pos rfl]
   exact ⟨fun _ => rfl, fun h => (by cases h), fun h => (by cases h), fun h => (by cases h), fun h => (by cases h)⟩
  rw [if_neg (by simp)]
  unfold badL at hb
  simp only [Bool.or_eq_false_iff, decide_eq_false_iff_not] at hb
  obtain ⟨⟨hb1, hb2⟩, hb3⟩ := hb
  cases ho : (ownL n pl (m, 0)).1
  ·rw [if_pos rfl]
   have h1 : (ownL n pl (m, 0)).2.2 ≠ 0 := by
    unfold ownL at ho ⊢
    split at ho
    ·cases ho
    ·rw [if_neg (by assumption)]; exact itemL_no ho
   exact ⟨fun _ => rfl, fun h => absurd h h1, fun h => absurd h h1, fun h => absurd h h1, fun h => absurd h h1⟩
  rw [if_neg (by simp)]
  have how : (ownL n pl (m, 0)).2 = (m + ownN n.val, 0) ∧ (n.val ≠ [] → (pl + n.path.length) % 2 = 0 ∧ m + 1 ≤ 1024) := by
   unfold ownL at ho ⊢
   by_cases hv : n.val = []
   ·rw [if_pos hv]; exact ⟨by simp [ownN, hv], fun h => absurd hv h⟩
   ·rw [if_neg hv] at ho ⊢
    obtain ⟨h1, h2, h3, h4⟩ := itemL_yes ho
    exact ⟨by rw [h3]; simp [ownN, hv], fun _ => ⟨h1, h4⟩⟩
  obtain ⟨how, hev⟩ := how
  rw [how]
  by_cases hk : (loopK (fun s' st' => loadK T f s' (atL n pl) (n.kind == 2) st') n.kid (m + ownN n.val, 0) 16).2.2 = 0
  rotate_left
  ·rw [if_pos hk]
   exact ⟨fun _ => rfl, fun h => absurd h hk, fun h => absurd h hk, fun h => absurd h hk, fun h => absurd h hk⟩
  rw [if_neg (by simpa using hk)]
  have hmo : m ≤ 1024 → m + ownN n.val ≤ 1024 := by
   intro h
   unfold ownN
   split
   ·omega
   ·exact (hev (by assumption)).2
  by_cases k1 : n.kind = 1
  ·rw [k1] at hc
   have hc1 : noKids n.kid = true ∧ pathOk n.path 0 = true ∧ n.val ≠ [] := by
    simp only [chk, if_true, Bool.and_eq_true, Bool.not_eq_true', decide_eq_true_eq] at hc
    exact ⟨hc.1.1.1, hc.1.1.2, by simpa using hc.1.2⟩
   have hno := noKids_all hc1.1
   have hlp : ∀ k, k ≤ 16 → loopK (fun s' st' => loadK T f s' (atL n pl) (n.kind == 2) st') n.kid (m + ownN n.val, 0) k = (noT, (m + ownN n.val, 0)) := by
    intro k
    induction k with
    | zero => intro _; rfl
    | succ k ihk =>
     intro hk
     simp only [loopK]
     rw [if_pos (hno k (by omega)), ihk (by omega)]
   rw [hlp 16 (Nat.le_refl _)]
   have ht : triOf n noT = .leaf n.path n.val := by simp [triOf, k1]
   rw [ht]
   have hev' := hev hc1.2.2
   refine ⟨fun h => absurd rfl h, fun _ => ⟨(fit_of_path hc1.2.1).1, by omega⟩, fun _ => by simp, fun _ x hx => ?_, fun _ => ⟨?_, hmo⟩⟩
   ·simp only [rp, hc1.2.2, if_false, List.mem_singleton] at hx
    subst hx; exact hev'.1
   ·simp [rp, hc1.2.2, ownN]
  ·by_cases k2 : n.kind = 2
   ·rw [k2] at hc
    have hc1 : oneKidX n.kid (n.kid 0) = true ∧ all32 [n.kid 0] = true ∧ pathOk n.path 1 = true ∧ n.val = [] := by
     simp only [chk] at hc
     rw [if_neg (by decide), if_pos trivial] at hc
     simp only [Bool.and_eq_true] at hc
     exact ⟨hc.1.1.1, hc.1.1.2, hc.1.2, by simpa using hc.2⟩
    obtain ⟨hfit, hlen⟩ := fit_of_path hc1.2.2.1
    have hl1 : 1 ≤ n.path.length := by omega
    have hat : atL n pl = pl + n.path.length := by simp [atL, k2]
    have h16 : pl + n.path.length ≤ 16 := by omega
    have hl := loop_ok (fun s' st' => loadK T f s' (atL n pl) (n.kind == 2) st') (atL n pl) (n.kind == 2) (fun s' st' h => ih s' _ _ st' (by omega) (by omega) h) (fun s' st' h => loadK_err T f _ _ _ _ h) n.kid (m + ownN n.val) 16
    have hkn : n.kid 0 ≠ [] := by
     intro e
     have := hc1.2.1
     rw [e] at this
     simp [all32] at this
    have hother : ∀ i, 1 ≤ i → (loopK (fun s' st' => loadK T f s' (atL n pl) (n.kind == 2) st') n.kid (m + ownN n.val, 0) 16).1 i = .nil := fun i hi => by
     by_cases h : i < 16
     ·exact hl.no i ((oneKid_all hc1.1).2 i hi h)
     ·exact hl.out i (by omega)
    generalize loopK (fun s' st' => loadK T f s' (atL n pl) (n.kind == 2) st') n.kid (m + ownN n.val, 0) 16 = r at *
    have ht : triOf n r.1 = .ext n.path (r.1 0) := by simp [triOf, k2]
    rw [ht]
    have hcn : cntT r.1 16 = (rp (r.1 0)).length := by
     have : r.1 = updT noT 0 (r.1 0) := by
      funext i
      by_cases h : i = 0
      ·subst h; rfl
      ·rw [updT_ne _ _ _ _ h]; exact hother i (by omega)
     conv => lhs; rw [this]
     exact cntT_one _ 15
    have hm := hl.many hk
    refine ⟨fun h => absurd hk h, fun _ => ⟨hfit, by omega, ⟨hl.ne hk 0 (by omega) hkn, fun e => by rw [e] at hl1; simp at hl1⟩, ?_⟩, fun _ => by simp, fun _ x hx => ?_, fun _ => ⟨?_, fun h => hm.2 (hmo h)⟩⟩
    ·have := hl.ok hk 0 (by omega)
     rw [hat] at this
     rw [show 16 - pl - n.path.length = 16 - (pl + n.path.length) from by omega]
     exact this
    ·simp only [rp, List.mem_map] at hx
     obtain ⟨y, hy, rfl⟩ := hx
     have := hl.even hk 0 (by omega) y hy
     rw [hat] at this
     simp only [List.length_append]
     rw [← Nat.add_assoc]; exact this
    ·simp only [rp, List.length_map]
     rw [hm.1, hcn, hc1.2.2.2]
     simp [ownN]
   ·have k3 : n.kind = 3 := by
     unfold chk at hc
     rw [if_neg k1, if_neg k2] at hc
     split at hc
     ·assumption
     ·cases hc
    rw [k3] at hc
    have hpe : n.path = [] := by
     simp only [chk] at hc
     rw [if_neg (by decide), if_neg (by decide), if_pos trivial] at hc
     simp only [Bool.and_eq_true] at hc
     simpa using hc.1.1.1
    have hat : atL n pl = pl + 1 := by simp [atL, k3]
    by_cases hno : noKids n.kid = true
    ·-- no kids
     have hnk := noKids_all hno
     have hlp : ∀ k, k ≤ 16 → loopK (fun s' st' => loadK T f s' (atL n pl) (n.kind == 2) st') n.kid (m + ownN n.val, 0) k = (noT, (m + ownN n.val, 0)) := by
      intro k
      induction k with
      | zero => intro _; rfl
      | succ k ihk =>
       intro hk
       simp only [loopK]
       rw [if_pos (hnk k (by omega)), ihk (by omega)]
     rw [hlp 16 (Nat.le_refl _)]
     have ht : triOf n noT = .br n.val noT := by simp [triOf, k3]
     rw [ht]
     have hrp : rp (.br n.val noT) = if n.val = [] then [] else [([], n.val)] := by
      simp [rp, noT]
     refine ⟨fun h => absurd rfl h, fun _ i => .inl rfl, fun _ => by simp, fun _ x hx => ?_, fun _ => ⟨?_, hmo⟩⟩
     ·rw [hrp] at hx
      split at hx
      ·cases hx
      ·rename_i hv
       rw [List.mem_singleton] at hx
       subst hx
       have := (hev hv).1
       rw [hpe] at this
       exact this
     ·rw [hrp]
      unfold ownN
      split <;> simp
    ·have hin : innerL n = true := by
      unfold innerL
      simp [k3, hno]
     rw [hin] at hb3
     simp at hb3
     have hpl : pl + 1 ≤ 16 := by omega
     have hl := loop_ok (fun s' st' => loadK T f s' (atL n pl) (n.kind == 2) st') (atL n pl) (n.kind == 2) (fun s' st' h => ih s' _ _ st' (by omega) (by omega) h) (fun s' st' h => loadK_err T f _ _ _ _ h) n.kid (m + ownN n.val) 16
     generalize loopK (fun s' st' => loadK T f s' (atL n pl) (n.kind == 2) st') n.kid (m + ownN n.val, 0) 16 = r at *
     have ht : triOf n r.1 = .br n.val r.1 := by simp [triOf, k3]
     rw [ht]
     have hm := hl.many hk
     have hrl := rp_len (.br n.val r.1) (by simp)
     simp only [kidsOf, valT] at hrl
     refine ⟨fun h => absurd hk h, fun _ i => ?_, fun _ => by simp, fun _ x hx => ?_, fun _ => ⟨?_, fun h => hm.2 (hmo h)⟩⟩
     ·by_cases h : i < 16
      ·by_cases e : r.1 i = .nil
       ·exact .inl e
       ·have := hl.ok hk i h
        rw [hat] at this
        exact .inr ⟨h, by omega, by rw [show 16 - pl - 1 = 16 - (pl + 1) from by omega]; exact this⟩
      ·exact .inl (hl.out i (by omega))
     ·simp only [rp, List.mem_append, List.mem_flatMap, List.mem_range, List.mem_map] at hx
      rcases hx with hx | ⟨i, hi, y, hy, rfl⟩
      ·split at hx
       ·cases hx
       ·rename_i hv
        rw [List.mem_singleton] at hx
        subst hx
        have := (hev hv).1
        rw [hpe] at this
        exact this
      ·have := hl.even hk i hi y hy
       rw [hat] at this
       simp only [List.length_cons]
       rw [show pl + (y.1.length + 1) = pl + 1 + y.1.length from by omega]
       exact this
     ·show r.2.1 = m + (rp (.br n.val r.1)).length
      rw [hm.1, hrl]; omega
end Go.Proofs.YtjppbomngnomhaaGreatDoor
