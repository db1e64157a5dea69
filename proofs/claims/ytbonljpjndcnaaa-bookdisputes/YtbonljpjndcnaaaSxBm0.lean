/-
  Walks: Bm0, Bm2, Bm3: what single functions of the program compute.
-/
import Derived.Test.YtbonljpjndcnaaaSxBl8
set_option linter.unusedVariables false
namespace Go.SX
open Go.Proofs
set_option linter.unusedSimpArgs false
set_option maxHeartbeats 4000000
set_option maxRecDepth 100000
theorem meets_view {C : Cod} {P : Program} {D : Codec C} {f : FuncId} {args args' : List (SV C)} {ret : SV C} {H1 : List (HS C)} (hM : Meets P D f args' [] ret H1) (h : Seen [] [] args args') : Meets P D f args [] ret H1 := by
  refine ⟨hM.enter, fun w E hm vs hs hd => hM.calls w E hm vs hs (view_denA hs ⟨fun _ h => h, fun j d e => by simp [ixO] at e, fun j e => by simp [ixL] at e, fun c b _ e => ?_⟩ args args' vs h.h hd)⟩
  rw [hm c (Nat.zero_le c)] at e
  cases e
def sB0 : Book := ⟨3, [], 0⟩
def sP0 : Posting := ⟨2, 5, 0, 1, 90, 7, -1⟩
def sB1 : Book := ⟨3, [sP0], 0⟩
def sB2 : Book := ⟨3, [sP0, ⟨3, 40, 1, 0, 90, 7, 0⟩, ⟨2, 40, 0, 1, 60, 7, -1⟩], 0⟩
def sB3 : Book := ⟨3, sB2.postings, 1⟩
theorem sane1 : postS sB0 sP0 = some sB1 := by decide +kernel
theorem sane2 : stmtS sB1 0 = some [-90, 90, 0] := by decide +kernel
theorem sane3 : dispS sB1 0 40 60 = some sB2 := by decide +kernel
theorem sane4 : stmtS sB2 0 = some [-90, 90, 0] := by decide +kernel
theorem sane5 : stmtS sB2 1 = some [30, -30, 0] := by decide +kernel
theorem sane6 : owedS sB2 7 = some [-60, 60, 0] := by decide +kernel
theorem sane7 : dispS sB2 0 50 1 = none := by decide +kernel
theorem sane8 : postS sB2 ⟨2, 39, 0, 1, 1, 0, -1⟩ = none := by decide +kernel
theorem sane9 : closeS sB2 0 = some sB3 := by decide +kernel
theorem sane10 : balS sB2 1 1 = some (-30) := by decide +kernel
theorem sane11 : validB sB3 = true := by decide +kernel
theorem sane12 : validB ⟨0, [], 0⟩ = false := by decide +kernel
theorem saneInts {f : FuncId} (xs : List Int) (hM : Meets Try.prog Dc f [.p (.dsl U.int xs), .p (.dsl U.int xs)] [] (.p (.bool (intsB xs xs))) []) : Meets Try.prog Dc f [.p (.dsl U.int xs), .p (.dsl U.int xs)] [] (.p (.bool true)) [] := by
  rwa [show intsB xs xs = true by simp [intsB]] at hM
theorem sane_meets : Meets Try.prog Dc 7 [] [] (.p (.bool true)) [] := by
  have c1 : Meets Try.prog Dc 9 [ba sB0, pa sP0] [] (postU sB0 (some sB1)) [] := sane1 ▸ PostU sB0 sP0 (by decide)
  have c2 : Meets Try.prog Dc 19 [ba sB1, .p (.int .i64 0)] [] (listU (some [-90, 90, 0])) [] := sane2 ▸ StatementU sB1 0 (by decide)
  have c3 : Meets Try.prog Dc 15 [ba sB1, .p (.int .i64 0), .p (.int .i64 40), .p (.int .i64 60)] [] (bookU (some sB2)) [] := sane3 ▸ DisputeU sB1 0 40 60 (by decide)
  have c4 : Meets Try.prog Dc 19 [ba sB2, .p (.int .i64 0)] [] (listU (some [-90, 90, 0])) [] := sane4 ▸ StatementU sB2 0 (by decide)
  have c5 : Meets Try.prog Dc 19 [ba sB2, .p (.int .i64 1)] [] (listU (some [30, -30, 0])) [] := sane5 ▸ StatementU sB2 1 (by decide)
  have c6 : Meets Try.prog Dc 24 [ba sB2, .p (.int .i64 7)] [] (listU (some [-60, 60, 0])) [] := sane6 ▸ OwedU sB2 7 (by decide)
  have c7 : Meets Try.prog Dc 15 [ba sB2, .p (.int .i64 0), .p (.int .i64 50), .p (.int .i64 1)] [] (bookU none) [] := sane7 ▸ DisputeU sB2 0 50 1 (by decide)
  have c8 : Meets Try.prog Dc 9 [ba sB2, pa ⟨2, 39, 0, 1, 1, 0, -1⟩] [] (postU sB2 none) [] := sane8 ▸ PostU sB2 ⟨2, 39, 0, 1, 1, 0, -1⟩ (by decide)
  have c9 : Meets Try.prog Dc 17 [ba sB2, .p (.int .i64 0)] [] (bookU (some sB3)) [] := sane9 ▸ CloseU sB2 0 (by decide)
  have c10 : Meets Try.prog Dc 21 [ba sB2, .p (.int .i64 1), .p (.int .i64 1)] [] (intU (some (-30))) [] := sane10 ▸ BalanceU sB2 1 1 (by decide)
  have c11 : Meets Try.prog Dc 11 [ba sB3] [] (.p (.bool true)) [] := sane11 ▸ valid_meets sB3 (by decide)
  have c12 : Meets Try.prog Dc 11 [ba ⟨0, [], 0⟩] [] (.p (.bool false)) [] := sane12 ▸ valid_meets ⟨0, [], 0⟩ (by decide)
  have c1 : Meets Try.prog Dc 9 [.agg [.p (.int .i64 3), .p (.lit (.slice none 0 0)), .p (.int .i64 0)], pa sP0] [] (postU sB0 (some sB1)) [] := meets_view c1 (by refine ⟨?_⟩; (repeat' (first | refine EndV.mk ?_ | exact trivial | exact rfl | refine And.intro ?_ ?_)))
  have c12 : Meets Try.prog Dc 11 [.agg [.p (.int .i64 0), .p (.lit (.slice none 0 0)), .p (.int .i64 0)]] [] (.p (.bool false)) [] := meets_view c12 (by refine ⟨?_⟩; (repeat' (first | refine EndV.mk ?_ | exact trivial | exact rfl | refine And.intro ?_ ?_)))
  have i1 := saneInts [-90, 90, 0] (ints_meets [-90, 90, 0] [-90, 90, 0] (by decide))
  have i2 := saneInts [30, -30, 0] (ints_meets [30, -30, 0] [30, -30, 0] (by decide))
  have i3 := saneInts [-60, 60, 0] (ints_meets [-60, 60, 0] [-60, 60, 0] (by decide))
  refine meets_of_gx Ax tab_ok Try.func7 (c := _) rfl Try.call7 1000 ?_
  (repeat' ((conv => whnf); first | (exfalso; omega) | (refine callx_pure c1 rfl rfl ?_) | (refine callx_pure c2 rfl rfl ?_) | (refine callx_pure c3 rfl rfl ?_) | (refine callx_pure c4 rfl rfl ?_) | (refine callx_pure c5 rfl rfl ?_) | (refine callx_pure c6 rfl rfl ?_) | (refine callx_pure c7 rfl rfl ?_) | (refine callx_pure c8 rfl rfl ?_) | (refine callx_pure c9 rfl rfl ?_) | (refine callx_pure c10 rfl rfl ?_) | (refine callx_pure c11 rfl rfl ?_) | (refine callx_pure c12 rfl rfl ?_) | (refine callx_read i1 ?_ rfl ?_; · (refine ⟨?_⟩; (repeat' (first | refine EndV.mk ?_ | exact trivial | exact rfl | refine And.intro ?_ ?_)); exact ⟨_, rfl, rfl, rfl, by simp, by (first | (simp; done) | (simp [List.take_of_length_le]; done) | (simp [List.take_of_length_le]; rfl)), rfl⟩)) | (refine callx_read i2 ?_ rfl ?_; · (refine ⟨?_⟩; (repeat' (first | refine EndV.mk ?_ | exact trivial | exact rfl | refine And.intro ?_ ?_)); exact ⟨_, rfl, rfl, rfl, by simp, by (first | (simp; done) | (simp [List.take_of_length_le]; done) | (simp [List.take_of_length_le]; rfl)), rfl⟩)) | (refine callx_read i3 ?_ rfl ?_; · (refine ⟨?_⟩; (repeat' (first | refine EndV.mk ?_ | exact trivial | exact rfl | refine And.intro ?_ ?_)); exact ⟨_, rfl, rfl, rfl, by simp, by (first | (simp; done) | (simp [List.take_of_length_le]; done) | (simp [List.take_of_length_le]; rfl)), rfl⟩)) | (refine split_en (eqB_posting _ _) (fun hb => ?_) (fun hb => ?_)) | (refine end_fn [] (.inr rfl) ?_ trivial rfl rfl) | (refine split_nd (fun hb => ?_) (fun hb => ?_)) | (refine split_d (fun hb => ?_) (fun hb => ?_)) | (refine split_n (fun hb => ?_) (fun hb => ?_)) | (refine split_x (fun hb => ?_) (fun hb => ?_)) | (refine And.intro (TraceOK.mk (by kernel_rfl)) ?_) | (refine Side.mk ?_; (repeat' (first | refine And.intro ?_ ?_ | exact inR_i64 (by omega) (by omega) | omega | rfl | exact trivial | exact none_ne rfl | exact some_ne rfl (Nat.ne_of_beq_eq_false rfl) | exact Nat.ne_of_beq_eq_false rfl | (dsimp only [srcSide]; omega) | (simp; done) | (simp; omega))); done) | (refine side_and ?_ ?_) | (refine drawX_of mixed ?_)))
  · exact ⟨⟨by decide, by decide, rfl⟩⟩
  · (repeat' (first | refine EndV.mk ?_ | exact trivial | exact rfl | refine And.intro ?_ ?_))
end Go.SX

namespace Go.SX
open Go.Proofs
set_option linter.unusedSimpArgs false
set_option linter.unusedVariables false
set_option maxHeartbeats 4000000
set_option maxRecDepth 100000
/-- all that an account has been booked -/
def tot (xs : List Posting) (t : Int) : Int := (xs.map fun p => delta p t).sum
/-- sums over accounts, months, subjects -/
def psum (f : Nat → Int) : Nat → Int
  | 0 => 0
  | n + 1 => psum f n + f n
theorem psum_congr {f g : Nat → Int} : ∀ n, (∀ i, i < n → f i = g i) → psum f n = psum g n
  | 0, _ => rfl
  | n + 1, h => by simp only [psum]; rw [psum_congr n fun i hi => h i (by omega), h n (by omega)]
theorem psum_add (f g : Nat → Int) : ∀ n, psum (fun i => f i + g i) n = psum f n + psum g n
  | 0 => rfl
  | n + 1 => by simp only [psum]; rw [psum_add f g n]; omega
theorem psum_zero : ∀ n, psum (fun _ => 0) n = 0
  | 0 => rfl
  | n + 1 => by simp only [psum]; rw [psum_zero n]; rfl
theorem psum_bound (f : Nat → Int) (A : Int) : ∀ n, (∀ i, i < n → -A ≤ f i ∧ f i ≤ A) → -(A * n) ≤ psum f n ∧ psum f n ≤ A * n
  | 0, _ => by simp [psum]
  | n + 1, h => by
    have ih := psum_bound f A n fun i hi => h i (by omega)
    have h1 := h n (by omega)
    have e : A * ((n + 1 : Nat) : Int) = A * n + A := by rw [Int.natCast_add, Int.mul_add]; simp
    simp only [psum]; rw [e]; omega
/-- one value at one place -/
theorem psum_one (v : Int) (k : Int) (hk : 0 ≤ k) : ∀ n : Nat, psum (fun t => if k = (t : Int) then v else 0) n = if k < n then v else 0
  | 0 => by simp [psum]; omega
  | n + 1 => by
    simp only [psum]
    rw [psum_one v k hk n]
    by_cases h1 : k < (n : Int)
    · rw [if_pos h1, if_neg (by omega), if_pos (by omega)]; omega
    · by_cases h2 : k = (n : Int)
      · rw [if_neg h1, if_pos h2, if_pos (by omega)]; omega
      · rw [if_neg h1, if_neg h2, if_neg (by omega)]; rfl
theorem psum_neg (f : Nat → Int) : ∀ n, psum (fun i => - f i) n = - psum f n
  | 0 => rfl
  | n + 1 => by simp only [psum]; rw [psum_neg f n]; omega
/-- a posting's two sides cancel -/
theorem psum_delta {p : Posting} {acc : Int} (h : Formed p acc) (n : Nat) (hn : (n : Int) = acc) : psum (fun t => delta p (t : Int)) n = 0 := by
  have h1 := psum_one p.amount p.creditor h.cre.1 n
  have h2 := psum_one p.amount p.debtor h.deb.1 n
  have e : (fun t : Nat => delta p (t : Int)) = fun t : Nat => (if p.creditor = (t : Int) then p.amount else 0) + (-(if p.debtor = (t : Int) then p.amount else 0)) := by
    funext t; unfold delta; omega
  rw [e, psum_add, psum_neg, h1, h2, if_pos (by have := h.cre; omega), if_pos (by have := h.deb; omega)]
  omega
/-- the sum over postings and that over numbers change places -/
theorem psum_sum (f : Nat → Posting → Int) (n : Nat) : ∀ xs : List Posting, psum (fun t => (xs.map (f t)).sum) n = (xs.map fun p => psum (fun t => f t p) n).sum
  | [] => by simp [psum_zero]
  | p :: xs => by
    have ih := psum_sum f n xs
    simp only [List.map_cons, List.sum_cons]
    rw [psum_add, ih]
theorem sum_zero_of {f : Posting → Int} : ∀ xs : List Posting, (∀ p ∈ xs, f p = 0) → (xs.map f).sum = 0
  | [], _ => rfl
  | p :: xs, h => by
    simp only [List.map_cons, List.sum_cons]
    rw [h p (by simp), sum_zero_of xs fun q hq => h q (by simp [hq])]; rfl
theorem bal_psum {b : Book} (h : ValidBook b) (m : Int) : psum (fun t => balL b.postings (t : Int) m) b.accounts.toNat = 0 := by
  have hacc := h.acc
  unfold balL
  rw [psum_sum (fun t p => entry (t : Int) m p)]
  refine sum_zero_of _ fun p hp => ?_
  have hF := h.formed p hp
  by_cases hm : p.day.tdiv 30 = m
  · rw [psum_congr (g := fun t => delta p (t : Int)) _ (fun i _ => by simp [entry, hm, delta])]
    exact psum_delta hF _ (by omega)
  · rw [psum_congr (g := fun _ => 0) _ (fun i _ => by simp [entry, hm])]
    exact psum_zero _
theorem bal_all {b : Book} (h : ValidBook b) (t : Int) : psum (fun m => balL b.postings t (m : Int)) 12 = tot b.postings t := by
  unfold balL tot
  rw [psum_sum (fun m p => entry t (m : Int) p)]
  congr 1
  apply List.map_congr_left
  intro p hp
  have hF := h.formed p hp
  have hd := tdiv30 hF.day
  have := psum_one (delta p t) (p.day.tdiv 30) hd.1 12
  rw [if_pos (by omega)] at this
  rw [← this]
  exact psum_congr _ fun i _ => by simp [entry, delta]
end Go.SX

namespace Go.SX
open Go.Proofs
set_option linter.unusedSimpArgs false
set_option linter.unusedVariables false
set_option maxHeartbeats 4000000
set_option maxRecDepth 100000
theorem owed_psum {b : Book} (h : ValidBook b) (s : Int) : ∀ i, i ≤ b.postings.length → psum (fun t => owedP b.postings s (t : Int) i) b.accounts.toNat = 0
  | 0, _ => psum_zero _
  | i + 1, hi => by
    have hacc := h.acc
    have ih := owed_psum h s i (by omega)
    have hF := formed_at h hi
    simp only [owedP]
    rw [psum_add, ih]
    cases standsB b.postings s i with
    | true => simp only [if_true]; rw [psum_delta hF _ (by omega)]; rfl
    | false => simp only [Bool.false_eq_true, if_false]; rw [psum_zero]; rfl
/-- all that stands -/
def standP (xs : List Posting) (t : Int) : Nat → Int
  | 0 => 0
  | i + 1 => standP xs t i + (if !decide ((xs.getD i posting0).kind = 3) && notBack xs i xs.length then delta (xs.getD i posting0) t else 0)
theorem owed_all {xs : List Posting} (t : Int) (h : ∀ p ∈ xs, 0 ≤ p.subject ∧ p.subject < 6) : ∀ i, i ≤ xs.length → psum (fun s => owedP xs (s : Int) t i) 6 = standP xs t i
  | 0, _ => psum_zero _
  | i + 1, hi => by
    have ih := owed_all t h i (by omega)
    have hs := h _ (getD_mem (j := i) hi)
    simp only [owedP, standP]
    rw [psum_add, ih]
    congr 1
    cases hc : (!decide ((xs.getD i posting0).kind = 3) && notBack xs i xs.length) with
    | true =>
      simp only [Bool.and_eq_true] at hc
      have := psum_one (delta (xs.getD i posting0) t) (xs.getD i posting0).subject hs.1 6
      rw [if_pos (by omega)] at this
      rw [if_pos rfl]
      refine Eq.trans (psum_congr _ fun s _ => ?_) this
      simp only [standsB, hc.1, hc.2, Bool.true_and, Bool.and_true, decide_eq_true_eq]
    | false =>
      simp only [Bool.false_eq_true, if_false]
      rw [psum_congr (g := fun _ => 0) _ (fun s _ => ?_)]
      · exact psum_zero _
      · have : standsB xs (s : Int) i = false := by
          unfold standsB
          simp only [Bool.and_eq_false_iff] at hc ⊢
          rcases hc with hc | hc
          · exact .inl (.inl hc)
          · exact .inr hc
        rw [this]; rfl
/-- what stands after the deeds so far, by the marks -/
def standT (xs : List Posting) (bk : List Bool) (t : Int) : Nat → Int
  | 0 => 0
  | i + 1 => standT xs bk t i + (if !decide ((xs.getD i posting0).kind = 3) && !bk.getD i false then delta (xs.getD i posting0) t else 0)
theorem standT_app (xs : List Posting) (p : Posting) (bk : List Bool) (t : Int) : ∀ i, i ≤ xs.length → standT (xs ++ [p]) bk t i = standT xs bk t i
  | 0, _ => rfl
  | i + 1, hi => by
    simp only [standT]
    rw [standT_app xs p bk t i (by omega)]
    have e : (xs ++ [p]).getD i posting0 = xs.getD i posting0 := by simp [List.getD_eq_getElem?_getD, List.getElem?_append_left hi]
    rw [e]
theorem standT_set (xs : List Posting) (bk : List Bool) (t : Int) (o : Nat) (ho : o < bk.length) (hb : bk.getD o false = false) (hk : (xs.getD o posting0).kind ≠ 3) : ∀ i, standT xs (bk.set o true) t i = standT xs bk t i - (if o < i then delta (xs.getD o posting0) t else 0)
  | 0 => by simp [standT]
  | i + 1 => by
    simp only [standT]
    rw [standT_set xs bk t o ho hb hk i]
    by_cases e : i = o
    · subst e
      have : (bk.set i true).getD i false = true := by simp [List.getD_eq_getElem?_getD, ho]
      rw [this, hb, if_neg (Nat.lt_irrefl _), if_pos (Nat.lt_succ_self _)]
      generalize xs.getD i posting0 = q at hk
      rw [decide_eq_false hk]
      simp only [Bool.not_false, Bool.not_true, Bool.and_false, Bool.and_true, Bool.false_eq_true, if_false, if_true]
      omega
    · rw [getD_set_ne _ _ _ _ _ (fun h => e h.symm)]
      generalize (if (!decide ((xs.getD i posting0).kind = 3) && !bk.getD i false) = true then delta (xs.getD i posting0) t else 0) = z
      by_cases h1 : o < i
      · rw [if_pos h1, if_pos (by omega)]; omega
      · rw [if_neg h1, if_neg (by omega)]; omega
theorem tot_app (xs : List Posting) (p : Posting) (t : Int) : tot (xs ++ [p]) t = tot xs t + delta p t := by simp [tot]
theorem takesB_back {acc : Int} {xs : List Posting} {bk : List Bool} {p : Posting} (h : takesB acc xs bk p = true) (hk : p.kind = 3) : bk.getD p.of_.toNat false = false ∧ isBackB p (xs.getD p.of_.toNat posting0) = true := by
  unfold takesB at h
  split at h
  · cases h
  · simp only [hk, decide_true, if_true] at h
    simp at h
    exact ⟨by simpa using h.1.2, h.2⟩
theorem delta_back {p q : Posting} (h : isBackB p q = true) (t : Int) : q.kind ≠ 3 ∧ delta p t = - delta q t := by
  unfold isBackB at h
  simp at h
  obtain ⟨⟨⟨⟨h1, h2⟩, h3⟩, h4⟩, h5⟩ := h
  refine ⟨h1, ?_⟩
  unfold delta
  rw [h2, h3, h4]; omega
theorem bkRun_tot {acc : Int} (t : Int) : ∀ (r done : List Posting) (bk bk' : List Bool), bkRun acc done bk r = some bk' → bk.length = 200 → (∀ i, bk.getD i false = true → i < done.length) → standT done bk t done.length = tot done t → standT (done ++ r) bk' t (done ++ r).length = tot (done ++ r) t
  | [], done, bk, bk', h, _, _, ht => by simp only [bkRun, Option.some.injEq] at h; subst h; simpa using ht
  | p :: r, done, bk, bk', h, hl, hb, ht => by
    simp only [bkRun] at h
    split at h
    · rename_i hk
      have hf := takesB_formed hk
      have e1 : done ++ p :: r = (done ++ [p]) ++ r := by simp
      rw [e1]
      refine bkRun_tot t r (done ++ [p]) (newBk bk p) bk' h (by rw [newBk_length]; exact hl) ?_ ?_
      · intro i hi
        simp only [List.length_append, List.length_singleton]
        unfold newBk at hi
        split at hi
        · rename_i h3
          have := takesB_of hk h3
          by_cases e : p.of_.toNat = i
          · obtain ⟨o1, o2⟩ := of_bounds (p := p) (acc := acc) (by simp [hf]) h3
            omega
          · rw [getD_set_ne _ _ _ _ _ e] at hi
            have := hb i hi; omega
        · have := hb i hi; omega
      · rw [tot_app, ← ht]
        have elen : (done ++ [p]).length = done.length + 1 := by simp
        have eg : (done ++ [p]).getD done.length posting0 = p := by simp
        rw [elen]
        simp only [standT]
        rw [eg, standT_app _ _ _ _ _ (Nat.le_refl _)]
        unfold newBk
        by_cases h3 : p.kind = 3
        · obtain ⟨o1, o2⟩ := of_bounds (p := p) (acc := acc) (by simp [hf]) h3
          have o3 := takesB_of hk h3
          obtain ⟨b1, b2⟩ := takesB_back hk h3
          obtain ⟨d1, d2⟩ := delta_back b2 t
          rw [if_pos h3, standT_set done bk t _ (by omega) b1 d1, if_pos (by omega), d2]
          simp [h3]; omega
        · have : bk.getD done.length false = false := by
            cases hc : bk.getD done.length false with
            | false => rfl
            | true => have := hb _ hc; omega
          rw [if_neg h3, this]
          simp [h3]
    · cases h
theorem standP_T {xs : List Posting} {bk : List Bool} (h : ∀ i, bk.getD i false = !notBack xs i xs.length) (t : Int) : ∀ i, standP xs t i = standT xs bk t i
  | 0 => rfl
  | i + 1 => by
    simp only [standP, standT]
    rw [standP_T h t i, h i, Bool.not_not]
theorem stand_tot {b : Book} (h : validB b = true) (t : Int) : standP b.postings t b.postings.length = tot b.postings t := by
  have hV := validBook_of h
  have ho : (openS b).isSome = true := by unfold validB at h; simp only [Bool.and_eq_true] at h; exact h.1
  obtain ⟨bk, hbk⟩ := Option.isSome_iff_exists.1 ho
  rw [standP_T (back_notBack hbk hV)]
  have := bkRun_tot t b.postings [] bk0 bk hbk List.length_replicate (fun i hi => by
    rw [bk0, List.getD_eq_getElem?_getD, List.getElem?_replicate] at hi
    split at hi <;> simp at hi) rfl
  simpa using this
end Go.SX
