/- DelP. -/
import Derived.Test.YtjppbomngnomhaaGreatDoorMx2
set_option linter.unnecessarySimpa false
set_option linter.unusedSimpArgs false
set_option linter.unusedVariables false
set_option maxRecDepth 100000
set_option maxHeartbeats 32000000
namespace Go.Proofs.YtjppbomngnomhaaGreatDoor
namespace Pl
def isN : Tri → Bool
 | .nil => true
 | _ => false
theorem isN_iff (t : Tri) : isN t = true ↔ t = .nil := by cases t <;> simp [isN]
theorem isN_not (t : Tri) : isN t = false ↔ t ≠ .nil := by cases t <;> simp [isN]
def liveK (f : Nat → Tri) : Nat → Nat
 | 0 => 0
 | n + 1 => if isN (f n) then liveK f n else liveK f n + 1
def lastK (f : Nat → Tri) : Nat → Nat
 | 0 => 0
 | n + 1 => if isN (f n) then lastK f n else n
theorem live_zero (f : Nat → Tri) : ∀ n, liveK f n = 0 → ∀ i, i < n → f i = .nil
 | 0, _, i, hi => by omega
 | n + 1, h, i, hi => by
  unfold liveK at h
  split at h
  ·rename_i hn
   rcases Nat.lt_or_ge i n with h1 | h1
   ·exact live_zero f n h i h1
   ·obtain rfl : i = n := by omega
    exact (isN_iff _).1 hn
  ·omega
theorem last_lt (f : Nat → Tri) : ∀ n, liveK f n ≠ 0 → lastK f n < n ∧ f (lastK f n) ≠ .nil
 | 0, h => absurd rfl h
 | n + 1, h => by
  unfold liveK at h
  unfold lastK
  split
  ·rename_i hn
   rw [if_pos hn] at h
   have := last_lt f n h
   exact ⟨by omega, this.2⟩
  ·rename_i hn
   exact ⟨by omega, fun e => hn ((isN_iff _).2 e)⟩
theorem live_one (f : Nat → Tri) : ∀ n, liveK f n = 1 → ∀ i, i < n → i ≠ lastK f n → f i = .nil
 | 0, h, i, hi, _ => by omega
 | n + 1, h, i, hi, hne => by
  unfold liveK at h
  unfold lastK at hne
  split at h
  ·rename_i hn
   rw [if_pos hn] at hne
   rcases Nat.lt_or_ge i n with h1 | h1
   ·exact live_one f n h i h1 hne
   ·obtain rfl : i = n := by omega
    exact (isN_iff _).1 hn
  ·rename_i hn
   rw [if_neg hn] at hne
   exact live_zero f n (by omega) i (by omega)
theorem live_le (f : Nat → Tri) : ∀ n, liveK f n ≤ n
 | 0 => Nat.le_refl _
 | n + 1 => by
  have := live_le f n
  unfold liveK
  split <;> omega
theorem updT_eq (f : Nat → Tri) (k : Nat) (t : Tri) : updT f k t k = t := if_pos rfl
theorem updT_ne (f : Nat → Tri) (k : Nat) (t : Tri) (i : Nat) (h : i ≠ k) : updT f k t i = f i := if_neg h
theorem live_out (f : Nat → Tri) (k : Nat) (t : Tri) : ∀ n, n ≤ k → liveK (updT f k t) n = liveK f n
 | 0, _ => rfl
 | n + 1, h => by
  have e := updT_ne f k t n (by omega)
  have ih := live_out f k t n (by omega)
  simp only [liveK, e, ih]
theorem live_put (f : Nat → Tri) (k : Nat) (t : Tri) (ht : t ≠ .nil) : ∀ n, k < n → liveK (updT f k t) n = if isN (f k) then liveK f n + 1 else liveK f n
 | 0, h => by omega
 | n + 1, h => by
  by_cases hk : k = n
  ·subst hk
   simp only [liveK, live_out f k t k (Nat.le_refl _), updT_eq, (isN_not t).2 ht]
   cases isN (f k) <;> simp
  ·have e := updT_ne f k t n (fun e => hk e.symm)
   have ih := live_put f k t ht n (by omega)
   simp only [liveK, e, ih]
   cases isN (f k) <;> cases isN (f n) <;> simp
theorem live_cut (f : Nat → Tri) (k : Nat) : ∀ n, k < n → liveK f n ≤ liveK (updT f k .nil) n + 1
 | 0, h => by omega
 | n + 1, h => by
  by_cases hk : k = n
  ·subst hk
   simp only [liveK, live_out f k .nil k (Nat.le_refl _), updT_eq]
   split <;> split <;> omega
  ·have e := updT_ne f k .nil n (fun e => hk e.symm)
   have ih := live_cut f k n (by omega)
   simp only [liveK, e]
   split <;> omega
theorem live_same (f : Nat → Tri) (k : Nat) (t : Tri) (ht : t ≠ .nil) (hf : f k ≠ .nil) (n : Nat) (h : k < n) : liveK (updT f k t) n = liveK f n := by
 rw [live_put f k t ht n h, (isN_not _).2 hf]; simp
theorem live_pos (f : Nat → Tri) (i n : Nat) (hi : i < n) (h : f i ≠ .nil) : 1 ≤ liveK f n := by
 rcases Nat.eq_zero_or_pos (liveK f n) with h0 | h0
 ·exact absurd (live_zero f n h0 i hi) h
 ·exact h0
def mendT (v : Bs) (kids : Nat → Tri) : Tri :=
 if liveK kids 16 = 0 then .leaf [] v
 else if liveK kids 16 = 1 ∧ v = [] then joinT [UInt8.ofNat (lastK kids 16)] (kids (lastK kids 16))
 else .br v kids
def delT : Tri → Bs → Tri
 | .nil, _ => .nil
 | .leaf _ _, _ => .nil
 | .ext p t, q => joinT p (delT t (q.drop p.length))
 | .br v kids, q => match q with
  | [] => mendT [] kids
  | a :: r => mendT v (updT kids a.toNat (delT (kids a.toNat) r))
def isB : Tri → Bool
 | .br _ _ => true
 | _ => false
def hasV (v : Bs) : Nat := if v = [] then 0 else 1
def canT : Tri → Prop
 | .nil => True
 | .leaf _ v => v ≠ [] ∧ v.length ≤ 32
 | .ext _ t => isB t = true ∧ canT t
 | .br v kids => v.length ≤ 32 ∧ 2 ≤ liveK kids 16 + hasV v ∧ ∀ i, canT (kids i)
theorem join_ne (p : Bs) (t : Tri) (h : t ≠ .nil) : joinT p t ≠ .nil := by
 cases t with
 | nil => exact absurd rfl h
 | leaf q v => simp only [joinT]; split <;> simp
 | ext q t => simp only [joinT]; split <;> simp
 | br v kids => simp only [joinT]; split <;> simp
theorem can_join (p : Bs) (t : Tri) (hn : t ≠ .nil) (h : canT t) : canT (joinT p t) := by
 by_cases hp : p = []
 ·subst hp; rw [joinT_nil]; exact h
 ·cases t with
  | nil => exact absurd rfl hn
  | leaf q v => simp only [joinT, hp, if_false]; exact h
  | ext q t => simp only [joinT, hp, if_false]; exact h
  | br v kids => simp only [joinT, hp, if_false]; exact ⟨rfl, h⟩
theorem can_old (f : Bs → Tri) (old : Bs) (h : ∀ r, canT (f r)) : ∀ i, canT (oldK f old i) := by
 intro i
 cases old with
 | nil => trivial
 | cons c r =>
  simp only [oldK, updT]
  split
  ·exact h r
  ·trivial
theorem can_part (own old q v : Bs) (f : Bs → Tri) (hf : ∀ r, canT (f r)) (hfn : ∀ r, f r ≠ .nil) (hv : v ≠ []) (hvl : v.length ≤ 32) (hol : own.length ≤ 32)
  (ho : old = [] → own ≠ [] ∧ q ≠ []) (hc : ∀ c r, old = c :: r → c.toNat < 16) (hq : ∀ c r, q = c :: r → c.toNat < 16) (hd : ∀ c d r s, old = c :: r → q = d :: s → c ≠ d) : canT (partT own (oldK f old) q v) := by
 have hk := can_old f old hf
 cases q with
 | nil =>
  cases old with
  | nil => exact absurd rfl (ho rfl).2
  | cons c r =>
   refine ⟨hvl, ?_, hk⟩
   have : 1 ≤ liveK (oldK f (c :: r)) 16 := live_pos _ c.toNat 16 (hc c r rfl) (by simp only [oldK, updT, if_true]; exact hfn r)
   simp only [hasV, hv, if_false]
   omega
 | cons a s =>
  have ha := hq a s rfl
  refine ⟨hol, ?_, fun i => ?_⟩
  ·rw [live_put _ _ _ (by simp) 16 ha]
   cases old with
   | nil =>
    have := (ho rfl).1
    simp only [hasV, this, if_false, oldK, noT, isN, if_true]
    omega
   | cons c r =>
    have hcd := hd c a r s rfl rfl
    have h1 : oldK f (c :: r) a.toNat = .nil := by
     simp only [oldK, updT]
     rw [if_neg (fun e => hcd (u8_eq e.symm))]
     rfl
    have : 1 ≤ liveK (oldK f (c :: r)) 16 := live_pos _ c.toNat 16 (hc c r rfl) (by simp only [oldK, updT, if_true]; exact hfn r)
    rw [h1]
    simp only [isN, if_true]
    omega
  ·simp only [updT]
   split
   ·exact ⟨hv, hvl⟩
   ·exact hk i
theorem part_isB (own q v : Bs) (kids : Nat → Tri) : isB (partT own kids q v) = true := by cases q <;> rfl
theorem isB_ne {t : Tri} (h : isB t = true) : t ≠ .nil := by rintro rfl; cases h
theorem put_isB (t : Tri) (q v : Bs) (h : isB t = true) : isB (putT t q v) = true := by
 cases t with
 | br w kids => cases q <;> rfl
 | _ => cases h
theorem fit_head {c : UInt8} {r p : Bs} (n : Nat) (hp : fit p = true) (h : p.drop n = c :: r) : c.toNat < 16 :=
 ((fit_cons c r).1 (h ▸ (fit_split p n hp).2)).1
theorem can_put : ∀ (t : Tri) (q v : Bs) (n : Nat), okT t n → canT t → fit q = true → v ≠ [] → v.length ≤ 32 → canT (putT t q v)
 | .nil, q, v, n, _, _, _, hv, hl => ⟨hv, hl⟩
 | .leaf p w, q, v, n, hk, hc, hq, hv, hl => by
  have hn := common_next p q
  have hcl := common_le p q
  unfold putT
  generalize common p q = c at *
  by_cases h : c = p.length ∧ c = q.length
  ·rw [if_pos h]; exact ⟨hv, hl⟩
  ·rw [if_neg h]
   refine can_join _ _ (isB_ne (part_isB _ _ _ _)) (can_part _ _ _ _ _ (fun r => hc) (fun r => by simp) hv hl ?_ ?_ (fun c' r e => fit_head c hk.1 e) (fun c' r e => fit_head c hq e) (fun a b r s h1 h2 => hn a b r s h1 h2))
   ·unfold ownT; split
    ·exact hc.2
    ·simp
   ·intro e
    refine ⟨by unfold ownT; rw [if_pos e]; exact hc.1, fun e2 => h ?_⟩
    rw [List.drop_eq_nil_iff] at e e2
    omega
 | .ext p t, q, v, n, hk, hc, hq, hv, hl => by
  have hn := common_next p q
  have hcl := common_le p q
  unfold putT
  generalize common p q = c at *
  by_cases h : c = p.length
  ·rw [if_pos h]
   exact can_join _ _ (isB_ne (put_isB t _ v hc.1)) (can_put t _ v _ hk.2.2.2 hc.2 (fit_split q c hq).2 hv hl)
  ·rw [if_neg h]
   refine can_join _ _ (isB_ne (part_isB _ _ _ _)) (can_part _ _ _ _ _ (fun r => can_join r t hk.2.2.1.1 hc.2) (fun r => join_ne r t hk.2.2.1.1) hv hl (by simp) ?_ (fun c' r e => fit_head c hk.1 e) (fun c' r e => fit_head c hq e) (fun a b r s h1 h2 => hn a b r s h1 h2))
   intro e
   rw [List.drop_eq_nil_iff] at e
   omega
 | .br w kids, q, v, n, hk, hc, hq, hv, hl => by
  cases q with
  | nil =>
   refine ⟨hl, ?_, hc.2.2⟩
   have h1 := hc.2.1
   have h2 : hasV w ≤ 1 := by unfold hasV; split <;> omega
   have h3 : hasV v = 1 := by simp [hasV, hv]
   omega
  | cons a r =>
   have h1 := (fit_cons a r).1 hq
   have hka : okT (kids a.toNat) (n - 1) := by
    rcases hk a.toNat with h2 | h2
    ·rw [h2]; trivial
    ·exact h2.2.2
   refine ⟨hc.1, ?_, fun i => ?_⟩
   ·have hpn := (okT_put (kids a.toNat) r v (max (n - 1) r.length) (okT_mono _ _ _ (by omega) hka) h1.2 (by omega)).2
    rw [live_put _ _ _ hpn 16 h1.1]
    have := hc.2.1
    split <;> omega
   ·simp only [updT]
    split
    ·exact can_put (kids a.toNat) r v (n - 1) hka (hc.2.2 _) h1.2 hv hl
    ·exact hc.2.2 i
theorem okT_out {v : Bs} {kids : Nat → Tri} {n : Nat} (h : okT (.br v kids) n) : ∀ i, 16 ≤ i → kids i = .nil := fun i hi => (h i).resolve_right (fun x => by omega)
theorem mend_ne (v : Bs) (kids : Nat → Tri) : mendT v kids ≠ .nil := by
 unfold mendT
 split
 ·simp
 ·rename_i h0
  split
  ·exact join_ne _ _ (last_lt kids 16 h0).2
  ·simp
theorem look_mend (v : Bs) (kids : Nat → Tri) (ho : ∀ i, 16 ≤ i → kids i = .nil) (x : Bs) : look (mendT v kids) x = look (.br v kids) x := by
 unfold mendT
 split
 ·rename_i h0
  have hz : ∀ i, kids i = .nil := fun i => by
   rcases Nat.lt_or_ge i 16 with h | h
   ·exact live_zero kids 16 h0 i h
   ·exact ho i h
  cases x with
  | nil => simp [look]
  | cons a r => simp [look, hz]
 ·rename_i h0
  split
  ·rename_i h1
   obtain ⟨h1, rfl⟩ := h1
   have hl := last_lt kids 16 h0
   have hz := live_one kids 16 h1
   generalize lastK kids 16 = k at *
   rw [look_join]
   cases x with
   | nil => simp [look]
   | cons a r =>
    simp only [look, List.length_singleton, List.take_succ_cons, List.take_zero, List.drop_succ_cons, List.drop_zero]
    by_cases h : a.toNat = k
    ·subst h
     simp
    ·rw [if_neg (by intro e; injection e with e _; rw [e, UInt8.toNat_ofNat'] at h; omega)]
     have : kids a.toNat = .nil := by
      rcases Nat.lt_or_ge a.toNat 16 with h2 | h2
      ·exact hz _ h2 h
      ·exact ho _ h2
     rw [this]; rfl
  ·rfl
theorem ok_mend (v : Bs) (kids : Nat → Tri) (n : Nat) (h : okT (.br v kids) n) : okT (mendT v kids) n := by
 unfold mendT
 split
 ·exact ⟨rfl, by simp⟩
 ·rename_i h0
  split
  ·have hl := last_lt kids 16 h0
   have hk := (h (lastK kids 16)).resolve_left hl.2
   refine (okT_join _ _ n ?_ (by simpa using hk.2.1) hl.2 (by simpa using hk.2.2)).1
   rw [fit_cons]
   exact ⟨by rw [UInt8.toNat_ofNat']; omega, rfl⟩
  ·exact h
theorem can_mend (v : Bs) (kids : Nat → Tri) (hv : v.length ≤ 32) (hc : ∀ i, canT (kids i)) (h : 1 ≤ liveK kids 16 + hasV v) : canT (mendT v kids) := by
 unfold mendT
 split
 ·rename_i h0
  refine ⟨fun e => ?_, hv⟩
  subst e
  simp [hasV] at h
  omega
 ·rename_i h0
  split
  ·exact can_join _ _ (last_lt kids 16 h0).2 (hc _)
  ·rename_i h1
   refine ⟨hv, ?_, hc⟩
   by_cases e : v = []
   ·subst e
    simp [hasV]
    have : liveK kids 16 ≠ 1 := fun e => h1 ⟨e, rfl⟩
    omega
   ·simp [hasV, e]; omega
structure DelT (t : Tri) (q : Bs) (n : Nat) : Prop where
 ok : okT (delT t q) n
 can : canT (delT t q)
 ne : isB t = true → delT t q ≠ .nil
 look : ∀ x, look (delT t q) x = if x = q then [] else look t x
theorem del_law : ∀ (t : Tri) (q : Bs) (n : Nat), okT t n → canT t → look t q ≠ [] → DelT t q n
 | .nil, q, n, _, _, h => absurd rfl h
 | .leaf p v, q, n, hk, hc, h => by
  have hq : q = p := by
   simp only [look] at h
   split at h
   ·assumption
   ·exact absurd rfl h
  subst hq
  refine ⟨trivial, trivial, fun h => (by cases h), fun x => ?_⟩
  simp only [delT, look]
  split <;> simp [*]
 | .ext p t, q, n, hk, hc, h => by
  have hq : q.take p.length = p ∧ look t (q.drop p.length) ≠ [] := by
   simp only [look] at h
   split at h
   ·exact ⟨by assumption, h⟩
   ·exact absurd rfl h
  have ih := del_law t _ _ hk.2.2.2 hc.2 hq.2
  have hne := ih.ne hc.1
  refine ⟨(okT_join _ _ n hk.1 hk.2.1 hne ih.ok).1, can_join _ _ hne ih.can, fun h => (by cases h), fun x => ?_⟩
  simp only [delT]
  rw [look_join, ih.look]
  simp only [look]
  by_cases h1 : x.take p.length = p
  ·rw [if_pos h1, if_pos h1]
   have e1 : x = q ↔ x.drop p.length = q.drop p.length := by rw [cut_eq p.length]; simp [h1, hq.1]
   simp only [e1]
  ·rw [if_neg h1, if_neg h1, if_neg (fun e => h1 (by rw [e]; exact hq.1))]
 | .br w kids, q, n, hk, hc, h => by
  cases q with
  | nil =>
   have ho := okT_out hk
   have hw : w ≠ [] := h
   refine ⟨ok_mend _ _ _ hk, can_mend _ _ (by simp) hc.2.2 ?_, fun _ => mend_ne _ _, fun x => ?_⟩
   ·have := hc.2.1
    have h2 : hasV w ≤ 1 := by unfold hasV; split <;> omega
    omega
   ·simp only [delT]
    rw [look_mend _ _ ho]
    cases x <;> simp [look]
  | cons a r =>
   simp only [look] at h
   have hne : kids a.toNat ≠ .nil := fun e => by rw [e] at h; exact h rfl
   obtain ⟨ha, hn1, hoa⟩ := (hk a.toNat).resolve_left hne
   have ih := del_law (kids a.toNat) r (n - 1) hoa (hc.2.2 _) h
   have hk2 : okT (.br w (updT kids a.toNat (delT (kids a.toNat) r))) n := fun i => by
    simp only [updT]
    split
    ·rename_i e; subst e; exact .inr ⟨ha, hn1, ih.ok⟩
    ·exact hk i
   refine ⟨ok_mend _ _ _ hk2, can_mend _ _ hc.1 (fun i => ?_) ?_, fun _ => mend_ne _ _, fun x => ?_⟩
   ·simp only [updT]
    split
    ·exact ih.can
    ·exact hc.2.2 i
   ·have h2 := hc.2.1
    by_cases hd : delT (kids a.toNat) r = .nil
    ·rw [hd]
     have := live_cut kids a.toNat 16 ha
     omega
    ·rw [live_same _ _ _ hd hne 16 ha]; omega
   ·simp only [delT]
    rw [look_mend _ _ (okT_out hk2)]
    cases x with
    | nil => simp [look]
    | cons b s =>
     simp only [look, updT]
     by_cases hb : b.toNat = a.toNat
     ·have := u8_eq hb
      subst this
      rw [if_pos rfl, ih.look]
      simp
     ·rw [if_neg hb, if_neg (by intro e; injection e with e _; subst e; exact hb rfl)]
def outI (q : Bs) (l : List It) : List It := l.filter fun x => x.1 != q
theorem rp_del (t : Tri) (q : Bs) (n : Nat) (hk : okT t n) (hc : canT t) (h : look t q ≠ []) : rp (delT t q) = outI q (rp t) := by
 have hd := del_law t q n hk hc h
 refine rise_eq _ _ (rp_sorted _) (List.Pairwise.filter _ (rp_sorted t)) ?_
 rintro ⟨x, y⟩
 rw [rp_mem _ n hd.ok, outI, List.mem_filter, rp_mem t n hk, hd.look]
 by_cases e : x = q
 ·subst e; simp
 ·simp [e]
theorem outI_paths (k : Bs) : ∀ (l : List It), outI (ofP k) (pathsI l) = pathsI (outI k l)
 | [] => rfl
 | x :: r => by
  have ih := outI_paths k r
  unfold pathsI outI at ih ⊢
  simp only [List.map_cons, List.filter_cons, ih]
  by_cases h : x.1 = k
  ·subst h; simp
  ·have h1 : (x.1 != k) = true := by simpa using h
   have h2 : (ofP x.1 != ofP k) = true := by simpa using fun e => h (ofP_inj e)
   rw [h1, h2]; rfl
theorem RepT.del {t : Tri} {L : List It} (h : RepT t L) (hc : canT t) (k : Bs) (hk : look t (ofP k) ≠ []) : RepT (delT t (ofP k)) (outI k L) :=
 ⟨(del_law t _ 16 h.ok hc hk).ok, by rw [rp_del t _ 16 h.ok hc hk, h.items, outI_paths]⟩
end Pl
end Go.Proofs.YtjppbomngnomhaaGreatDoor
