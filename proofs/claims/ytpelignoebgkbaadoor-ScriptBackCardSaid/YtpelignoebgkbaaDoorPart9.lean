/- Scripts: a line that is read, and the line that is written of it. -/
import Derived.Test.YtpelignoebgkbaaDoorPart8
import Derived.Lib.IndexLaws
set_option linter.unusedVariables false
set_option linter.unusedSimpArgs false
namespace Go.Proofs.YtpelignoebgkbaaDoor
open Go.Am
set_option maxRecDepth 100000
def apart : List Nat → Prop
 | [] => True
 | q :: qs => (∀ r ∈ qs, fld r ≠ fld q) ∧ apart qs
def spel (m : Int) : List (List UInt8) → List (List UInt8) → Prop
 | [], [] => True
 | w :: ws, t :: ts => (t = w ∨ ((pmacV w).2 = 0 ∧ (pmacV w).1 = m)) ∧ spel m ws ts
 | _, _ => False
theorem brF_fld (n : Int) : ∀ (qs : List Nat) (x : Cmd) (ws : List (List UInt8 × Int)), (brF n qs x ws).1 = 0 → ∀ g, (∀ q ∈ qs, g ≠ fld q) → fOf (brF n qs x ws).2.2 g = fOf x g
 | [], x, [], _, g, _ => rfl
 | [], x, w :: ws, h, _, _ => by cases h
 | q :: qs, x, [], h, _, _ => by cases h
 | q :: qs, x, w :: ws, h, g, hg => by
  unfold brF at h ⊢
  split at h
  · rename_i he
    rw [if_pos he]
    exact (brF_fld n qs _ ws h g (fun r hr => hg r (by simp [hr]))).trans (rdW_fld q w.1 x g (hg q (by simp)))
  · rename_i he
    exact absurd h he
theorem brF_k (n : Int) : ∀ (qs : List Nat) (x : Cmd) (ws : List (List UInt8 × Int)), (brF n qs x ws).1 = 0 → (brF n qs x ws).2.2.k = x.k ∧ (brF n qs x ws).2.2.c = x.c
 | [], x, [], _ => ⟨rfl, rfl⟩
 | [], x, w :: ws, h => by cases h
 | q :: qs, x, [], h => by cases h
 | q :: qs, x, w :: ws, h => by
  unfold brF at h ⊢
  split at h
  · rename_i he
    rw [if_pos he]
    obtain ⟨h1, h2⟩ := brF_k n qs _ ws h
    exact ⟨h1.trans (rdW_k q w.1 x), h2.trans (rdW_c q w.1 x)⟩
  · rename_i he
    exact absurd h he
theorem fOf_m {x y : Cmd} (h : fOf x 3 = fOf y 3) : x.m = y.m := congrArg Prod.fst h
theorem brF_back (n : Int) : ∀ (qs : List Nat) (x : Cmd) (ws : List (List UInt8 × Int)), apart qs → (∀ w ∈ ws, Clean w.1) → (brF n qs x ws).1 = 0 →
  (∀ t ∈ qs.map (wordTx (brF n qs x ws).2.2), Clean t) ∧ spel (brF n qs x ws).2.2.m (ws.map Prod.fst) (qs.map (wordTx (brF n qs x ws).2.2)) ∧
  ∀ (n' : Int) (vs : List (List UInt8 × Int)), vs.map Prod.fst = qs.map (wordTx (brF n qs x ws).2.2) → brF n' qs x vs = (0, 0, (brF n qs x ws).2.2)
 | [], x, [], _, _, _ => ⟨by simp, trivial, fun n' vs hv => by
  cases vs with
  | nil => rfl
  | cons v vs => simp at hv⟩
 | [], x, w :: ws, _, _, h => by cases h
 | q :: qs, x, [], _, _, h => by cases h
 | q :: qs, x, w :: ws, ha, hw, h => by
  have he : (rdW q w.1 x).1 = 0 := by
   unfold brF at h
   split at h
   · assumption
   · rename_i he; exact absurd h he
  have e : brF n (q :: qs) x (w :: ws) = brF n qs (rdW q w.1 x).2 ws := by rw [brF, if_pos he]
  rw [e] at h ⊢
  obtain ⟨i1, i2, i3⟩ := brF_back n qs (rdW q w.1 x).2 ws ha.2 (fun v hv => hw v (by simp [hv])) h
  have hf := brF_fld n qs (rdW q w.1 x).2 ws h (fld q) (fun r hr => Ne.symm (ha.1 r hr))
  have ht : wordTx (brF n qs (rdW q w.1 x).2 ws).2.2 q = wordTx (rdW q w.1 x).2 q := wordTx_fld hf
  obtain ⟨j1, j2, j3⟩ := rdW_back q x (hw w (by simp)) he
  rw [List.map_cons, List.map_cons, ht]
  refine ⟨fun t hm => ?_, ⟨?_, i2⟩, fun n' vs hv => ?_⟩
  · rcases List.mem_cons.1 hm with rfl | hm
    · exact j1
    · exact i1 t hm
  · rcases j3 with j3 | ⟨g1, g2, g3⟩
    · exact .inl j3
    · rw [g1] at hf
      exact .inr ⟨g2, g3.trans (fOf_m hf).symm⟩
  · cases vs with
    | nil => simp at hv
    | cons v vs =>
     rw [List.map_cons, List.cons.injEq] at hv
     rw [brF, hv.1, j2, if_pos he]
     exact i3 n' vs hv.2
theorem frmF_form (w : List UInt8) : ∀ (fs : List (List UInt8 × Int × List Nat)), (∃ f ∈ fs, f.1 = w ∧ ∀ n p ws, frmF n (w, p) ws fs = brF n f.2.2 (cmd0' f.2.1) ws) ∨ ∀ n p ws, frmF n (w, p) ws fs = (8, 0, cmd0' 0)
 | [] => .inr fun _ _ _ => rfl
 | f :: r => by
  by_cases hf : f.1 = w
  · exact .inl ⟨f, by simp, hf, fun n p ws => by rw [frmF, if_pos hf]⟩
  · rcases frmF_form w r with ⟨g, hg, h1, h2⟩ | h
    · exact .inl ⟨g, by simp [hg], h1, fun n p ws => by rw [frmF, if_neg hf]; exact h2 n p ws⟩
    · exact .inr fun n p ws => by rw [frmF, if_neg hf]; exact h n p ws
theorem formsL_ok : ∀ f ∈ formsL, formOf f.2.1 = some f ∧ apart f.2.2 ∧ Clean f.1 ∧ f.1.getD 0 0 ≠ 35 := by
 unfold formsL
 simp only [List.mem_cons, List.not_mem_nil, or_false]
 rintro f (rfl | rfl | rfl | rfl | rfl | rfl | rfl | rfl | rfl | rfl | rfl | rfl) <;> exact ⟨rfl, by simp [apart, fld], ⟨by decide, by decide⟩, by decide⟩
/- Words. -/
theorem splR_none (c : Int) : ∀ (a cur : List UInt8), (∀ x ∈ a, (x.toNat : Int) ≠ c) → splR c a cur = [cur ++ a]
 | [], cur, _ => by simp [splR]
 | x :: a, cur, h => by
  rw [splR, show ((x.toNat : Int) == c) = false by rw [beq_eq_false_iff_ne]; exact h x (by simp), cond_false, splR_none c a _ (fun y hy => h y (by simp [hy]))]
  simp
theorem spl_join : ∀ (t : List UInt8) (ts : List (List UInt8)), (∀ w ∈ t :: ts, Clean w) → spl 32 (t ++ Lib.joinTail spc ts) = t :: ts
 | t, [], h => by
  have hc : ∀ x ∈ t, ((x.toNat : Nat) : Int) ≠ 32 := fun x hx e => ((h t (by simp)).2 x hx).1 (UInt8.toNat_inj.1 (by show x.toNat = 32; omega))
  show spl 32 (t ++ []) = [t]
  rw [List.append_nil]
  exact splR_none 32 t [] hc
 | t, u :: ts, h => by
  have ih := spl_join u ts (fun w hw => h w (by simp [hw]))
  have hc : ∀ x ∈ t, ((x.toNat : Nat) : Int) ≠ 32 := fun x hx e => ((h t (by simp)).2 x hx).1 (UInt8.toNat_inj.1 (by show x.toNat = 32; omega))
  show spl 32 (t ++ (32 :: u ++ Lib.joinTail spc ts)) = _
  have := splR_app 32 (u ++ Lib.joinTail spc ts) t []
  unfold spl at ih ⊢
  refine Eq.trans this ?_
  rw [show splR ((32 : UInt8).toNat : Int) (u ++ Lib.joinTail spc ts) [] = u :: ts from ih, show splR ((32 : UInt8).toNat : Int) t [] = [t] from splR_none 32 t [] hc]
  rfl
theorem wordsF_ok : ∀ (l : List (List UInt8)) (a : Int), (∀ w ∈ l, w ≠ []) → (wordsF l a).2 = none ∧ (wordsF l a).1.map Prod.fst = l
 | [], _, _ => ⟨rfl, rfl⟩
 | w :: l, a, h => by
  obtain ⟨h1, h2⟩ := wordsF_ok l (a + (w.length + 1)) (fun v hv => h v (by simp [hv]))
  rw [wordsF, if_neg (h w (by simp))]
  exact ⟨h1, by rw [List.map_cons, h2]⟩
theorem wordsF_inv : ∀ (l : List (List UInt8)) (a : Int), (wordsF l a).2 = none → (∀ w ∈ l, w ≠ []) ∧ (wordsF l a).1.map Prod.fst = l
 | [], _, _ => ⟨by simp, rfl⟩
 | w :: l, a, h => by
  unfold wordsF at h ⊢
  split at h
  · cases h
  · rename_i hw
    obtain ⟨h1, h2⟩ := wordsF_inv l _ h
    rw [if_neg hw]
    refine ⟨fun v hv => ?_, by rw [List.map_cons, h2]⟩
    rcases List.mem_cons.1 hv with rfl | hv
    · exact hw
    · exact h1 v hv
theorem index_none : ∀ {l : List UInt8} {c : UInt8}, (∀ x ∈ l, x ≠ c) → Lib.indexByte l c = -1
 | [], _, _ => rfl
 | b :: l, c, h => by
  rw [Lib.indexByte, show (b == c) = false by simpa using h b (by simp), index_none (l := l) (c := c) (fun x hx => h x (by simp [hx]))]
  rfl
theorem index_neg {l : List UInt8} {c : UInt8} (h : ¬ 0 ≤ Lib.indexByte l c) : ∀ x ∈ l, x ≠ c := by
 have h1 := Lib.indexByte_ge l c
 have h2 := Lib.indexByte_none (l := l) (c := c) (by omega)
 intro x hx e
 subst e
 obtain ⟨k, hk⟩ := List.mem_iff_getElem?.1 hx
 exact h2 k hk
theorem splR_mem (c : Int) : ∀ (s cur : List UInt8), (∀ x ∈ cur, (x.toNat : Int) ≠ c) → ∀ w ∈ splR c s cur, ∀ x ∈ w, (x.toNat : Int) ≠ c ∧ (x ∈ s ∨ x ∈ cur)
 | [], cur, hc, w, hw, x, hx => by
  simp [splR] at hw
  subst hw
  exact ⟨hc x hx, .inr hx⟩
 | y :: s, cur, hc, w, hw, x, hx => by
  rw [splR] at hw
  cases hy : ((y.toNat : Int) == c) with
  | true =>
   rw [hy, cond_true] at hw
   rcases List.mem_cons.1 hw with rfl | hw
   · exact ⟨hc x hx, .inr hx⟩
   · obtain ⟨h1, h2⟩ := splR_mem c s [] (by simp) w hw x hx
     exact ⟨h1, .inl (by rcases h2 with h2 | h2; exact List.mem_cons_of_mem _ h2; cases h2)⟩
  | false =>
   rw [hy, cond_false] at hw
   have hy2 : (y.toNat : Int) ≠ c := by simpa using hy
   obtain ⟨h1, h2⟩ := splR_mem c s (cur ++ [y]) (fun z hz => by
    rcases List.mem_append.1 hz with hz | hz
    · exact hc z hz
    · rw [List.mem_singleton] at hz; subst hz; exact hy2) w hw x hx
   refine ⟨h1, ?_⟩
   rcases h2 with h2 | h2
   · exact .inl (List.mem_cons_of_mem _ h2)
   · rcases List.mem_append.1 h2 with h2 | h2
     · exact .inr h2
     · rw [List.mem_singleton] at h2; subst h2; exact .inl (by simp)
end Go.Proofs.YtpelignoebgkbaaDoor
/- Scripts: the law of writing and reading answers true. -/
namespace Go.Proofs.YtpelignoebgkbaaDoor
open Go.Am
set_option maxRecDepth 100000
def rngOk (x : Cmd) : Prop := (-1 ≤ x.a ∧ x.a ≤ 1000000000) ∧ (-1 ≤ x.b ∧ x.b ≤ 1000000000) ∧ 0 ≤ x.d ∧ x.d ≤ 9223372036854775807
theorem rdW_rng (q : Nat) (w : List UInt8) {x : Cmd} (h : rngOk x) : rngOk (rdW q w x).2 := by
 obtain ⟨ha, hb, hd⟩ := h
 have h1 := numV_rng (most := 1000000000) (by omega) w
 have h2 := numV_rng (most := 65535) (by omega) w
 have h3 := numV_rng (most := 9223372036854775807) (by omega) w
 match q with
 | 0 => exact ⟨⟨by show (-1 : Int) ≤ (numV 1000000000 w).2; omega, h1.2⟩, hb, hd⟩
 | 1 => exact ⟨ha, ⟨by show (-1 : Int) ≤ (numV 1000000000 w).2; omega, h1.2⟩, hd⟩
 | 2 =>
  unfold rdW
  simp only []
  split
  · exact ⟨ha, ⟨by show (-1 : Int) ≤ -1; omega, by show (-1 : Int) ≤ 1000000000; omega⟩, hd⟩
  · exact ⟨ha, ⟨by show (-1 : Int) ≤ (numV 1000000000 w).2; omega, h1.2⟩, hd⟩
 | 3 => exact ⟨ha, ⟨by show (-1 : Int) ≤ (numV 65535 w).2; omega, by show (numV 65535 w).2 ≤ 1000000000; omega⟩, hd⟩
 | 4 => unfold rdW; simp only []; (repeat' split) <;> exact ⟨ha, hb, hd⟩
 | 5 => unfold rdW; simp only []; (repeat' split) <;> exact ⟨ha, hb, hd⟩
 | 6 => unfold rdW; simp only []; (repeat' split) <;> exact ⟨ha, hb, hd⟩
 | q + 7 => exact ⟨ha, hb, h3⟩
theorem brF_rng (n : Int) : ∀ (qs : List Nat) (x : Cmd) (ws : List (List UInt8 × Int)), rngOk x → (brF n qs x ws).1 = 0 → rngOk (brF n qs x ws).2.2
 | [], x, [], h, _ => h
 | [], x, w :: ws, _, h => by cases h
 | q :: qs, x, [], _, h => by cases h
 | q :: qs, x, w :: ws, hx, h => by
  unfold brF at h ⊢
  split at h
  · rename_i he
    rw [if_pos he]
    exact brF_rng n qs _ ws (rdW_rng q w.1 hx) h
  · rename_i he
    exact absurd h he
theorem rng_ok {x : Cmd} (h : rngOk x) : CmdOk x := by
 obtain ⟨ha, hb, hd⟩ := h
 exact ⟨⟨by omega, by omega⟩, ⟨by omega, by omega⟩, octI_rng x.i, hd.1, by omega⟩
theorem lineF_zero {s : List UInt8} (h : (lineF s).2.2.1 = 0) : (lineF s).2.2 = (0, 0) := by
 unfold lineF at h ⊢
 split
 · rename_i h1; rw [if_pos h1] at h; cases h
 · rename_i h1
   rw [if_neg h1] at h
   split
   · rfl
   · rename_i h2
     rw [if_neg h2] at h
     split
     · rfl
     · rename_i h3
       rw [if_neg h3] at h
       exact absurd h h3
theorem cmdEq_self (x : Cmd) : cmdEq x x = true := by simp [cmdEq]
theorem words_clean {s : List UInt8} (hs : ¬ 0 ≤ Lib.indexByte s 10) (hw : (words s).2 = none) : (∀ w ∈ (words s).1, Clean w.1) ∧ (words s).1.map Prod.fst = spl 32 s := by
 obtain ⟨h1, h2⟩ := wordsF_inv (spl 32 s) 0 hw
 refine ⟨fun w hm => ?_, h2⟩
 have hm2 : w.1 ∈ spl 32 s := by rw [← h2]; exact List.mem_map_of_mem hm
 refine ⟨h1 _ hm2, fun c hc => ?_⟩
 obtain ⟨g1, g2⟩ := splR_mem 32 s [] (by simp) _ hm2 c hc
 refine ⟨fun e => g1 (by rw [e]; rfl), ?_⟩
 rcases g2 with g2 | g2
 · exact index_neg hs c g2
 · cases g2
theorem tail_mem : ∀ {ts : List (List UInt8)} {c : UInt8}, c ∈ Lib.joinTail spc ts → c = 32 ∨ ∃ t ∈ ts, c ∈ t
 | [], c, h => by simp [Lib.joinTail] at h
 | t :: ts, c, h => by
  have e : Lib.joinTail spc (t :: ts) = 32 :: t ++ Lib.joinTail spc ts := rfl
  rw [e] at h
  rcases List.mem_append.1 h with h | h
  · rcases List.mem_cons.1 h with h | h
    · exact .inl h
    · exact .inr ⟨t, by simp, h⟩
  · rcases tail_mem h with h | ⟨u, hu, h⟩
    · exact .inl h
    · exact .inr ⟨u, by simp [hu], h⟩
theorem line_yes {s : List UInt8} (h : (lineF s).2.1 = true) :
  (lineF s).2.2 = (0, 0) ∧ CmdOk (lineF s).1 ∧ lineF (lineTx (lineF s).1) = ((lineF s).1, true, 0, 0) ∧ spel (lineF s).1.m (spl 32 s) (spl 32 (lineTx (lineF s).1)) := by
 have key : ¬ 0 ≤ Lib.indexByte s 10 ∧ (readF s).1 = 0 ∧ lineF s = ((readF s).2.2, true, 0, 0) := by
  unfold lineF at h ⊢
  split at h
  · cases h
  · rename_i h1
    rw [if_neg h1]
    split at h
    · cases h
    · rename_i h2
      rw [if_neg h2]
      split at h
      · rename_i h3; rw [if_pos h3]; exact ⟨h1, h3, rfl⟩
      · cases h
 obtain ⟨hn, hr, hl⟩ := key
 rw [hl]
 simp only []
 have hw : (words s).2 = none := by
  unfold readF at hr
  split at hr
  · cases hr
  · assumption
  · assumption
 obtain ⟨hc, hm⟩ := words_clean hn hw
 obtain ⟨w, ws, hws⟩ : ∃ w ws, (words s).1 = w :: ws := by
  cases hq : (words s).1 with
  | nil => exact absurd hq (words_some hw)
  | cons w ws => exact ⟨w, ws, rfl⟩
 have hrd : readF s = frmF s.length w ws formsL := by unfold readF; rw [hw, hws]
 obtain ⟨w0, p0⟩ := w
 rcases frmF_form w0 formsL with ⟨f, hf, hname, hfe⟩ | hno
 · obtain ⟨f1, f2, f3, f4⟩ := formsL_ok f hf
   have e := hrd.trans (hfe s.length p0 ws)
   rw [e] at hr ⊢
   obtain ⟨i1, i2, i3⟩ := brF_back s.length f.2.2 (cmd0' f.2.1) ws f2 (fun v hv => hc v (by rw [hws]; simp [hv])) hr
   obtain ⟨k1, _⟩ := brF_k s.length f.2.2 (cmd0' f.2.1) ws hr
   have hrg := brF_rng s.length f.2.2 (cmd0' f.2.1) ws ⟨⟨by show (-1 : Int) ≤ 0; omega, by show (0 : Int) ≤ 1000000000; omega⟩, ⟨by show (-1 : Int) ≤ 0; omega, by show (0 : Int) ≤ 1000000000; omega⟩, by show (0 : Int) ≤ 0; omega, by show (0 : Int) ≤ 9223372036854775807; omega⟩ hr
   generalize (brF s.length f.2.2 (cmd0' f.2.1) ws).2.2 = d at i1 i2 i3 k1 hrg ⊢
   have hwt : wordsTx d = f.1 :: f.2.2.map (wordTx d) := by
    unfold wordsTx
    rw [show d.k = f.2.1 from k1, f1]
   have hlt : lineTx d = f.1 ++ Lib.joinTail spc (f.2.2.map (wordTx d)) := by unfold lineTx; rw [hwt, Lib.join_cons]
   have hcl : ∀ t ∈ f.1 :: f.2.2.map (wordTx d), Clean t := fun t ht => by
    rcases List.mem_cons.1 ht with rfl | ht
    · exact f3
    · exact i1 t ht
   have hsp : spl 32 (lineTx d) = f.1 :: f.2.2.map (wordTx d) := by rw [hlt]; exact spl_join _ _ hcl
   refine ⟨trivial, rng_ok hrg, ?_, ?_⟩
   · obtain ⟨g1, g2⟩ := wordsF_ok (f.1 :: f.2.2.map (wordTx d)) 0 (fun t ht => (hcl t ht).1)
     have hwd : words (lineTx d) = wordsF (f.1 :: f.2.2.map (wordTx d)) 0 := by unfold words; rw [hsp]
     obtain ⟨v, vs, hv⟩ : ∃ v vs, (words (lineTx d)).1 = v :: vs := by
      rw [hwd]
      cases hq : (wordsF (f.1 :: f.2.2.map (wordTx d)) 0).1 with
      | nil => rw [hq] at g2; cases g2
      | cons v vs => exact ⟨v, vs, rfl⟩
     rw [← hwd] at g1 g2
     rw [hv, List.map_cons, List.cons.injEq] at g2
     have hrd2 : readF (lineTx d) = (0, 0, d) := by
      have : readF (lineTx d) = frmF (lineTx d).length v vs formsL := by unfold readF; rw [g1, hv]
      rw [this]
      obtain ⟨v0, pv⟩ := v
      have e0 : v0 = w0 := g2.1.trans hname
      rw [e0, hfe]
      exact i3 _ vs g2.2
     have hix : Lib.indexByte (lineTx d) 10 = -1 := index_none fun x hx => by
      rw [hlt] at hx
      rcases List.mem_append.1 hx with hx | hx
      · exact (f3.2 x hx).2
      · rcases tail_mem hx with rfl | ⟨t, ht, hx⟩
        · decide
        · exact ((i1 t ht).2 x hx).2
     have hhd : ¬ (lineTx d = [] ∨ (lineTx d).getD 0 0 = 35) := by
      rw [hlt]
      cases hq : f.1 with
      | nil => exact absurd hq f3.1
      | cons b bs =>
       rw [hq] at f4
       rintro (e | e)
       · cases e
       · exact f4 e
     unfold lineF
     rw [hix, if_neg (by omega), if_neg hhd, hrd2]
     rfl
   · rw [hsp]
     have : spl 32 s = w0 :: ws.map Prod.fst := by rw [← hm, hws, List.map_cons]
     rw [this]
     exact ⟨.inl hname, i2⟩
 · rw [hrd, hno] at hr
   cases hr
/- Places. -/
def lenL : List (List UInt8) → Nat
 | [] => 0
 | w :: ws => w.length + 1 + lenL ws
theorem lenL_splR (c : Int) : ∀ (s cur : List UInt8), lenL (splR c s cur) = s.length + cur.length + 1
 | [], cur => by simp [splR, lenL]
 | x :: xs, cur => by
  rw [splR]
  cases ((x.toNat : Int) == c) with
  | true => rw [cond_true, lenL, lenL_splR c xs []]; simp; omega
  | false => rw [cond_false, lenL_splR c xs (cur ++ [x])]; simp; omega
theorem wordsF_place : ∀ (l : List (List UInt8)) (a : Int), 0 ≤ a → (∀ w ∈ (wordsF l a).1, a ≤ w.2 ∧ w.2 + 1 ≤ a + lenL l) ∧ ∀ p, (wordsF l a).2 = some p → a ≤ p ∧ p + 1 ≤ a + lenL l
 | [], _, _ => ⟨by simp [wordsF], by simp [wordsF]⟩
 | w :: l, a, h => by
  obtain ⟨h1, h2⟩ := wordsF_place l (a + (w.length + 1)) (by omega)
  unfold wordsF lenL
  split
  · exact ⟨by simp, fun p hp => by simp at hp; subst hp; omega⟩
  · refine ⟨fun v hv => ?_, fun p hp => ?_⟩
    · rcases List.mem_cons.1 hv with rfl | hv
      · show a ≤ a ∧ a + 1 ≤ _; omega
      · have := h1 v hv; omega
    · have := h2 p hp; omega
theorem brF_place (n : Int) (hn : 0 ≤ n) : ∀ (qs : List Nat) (x : Cmd) (ws : List (List UInt8 × Int)), (∀ w ∈ ws, 0 ≤ w.2 ∧ w.2 ≤ n) → 0 ≤ (brF n qs x ws).2.1 ∧ (brF n qs x ws).2.1 ≤ n
 | [], x, [], _ => ⟨Int.le_refl _, hn⟩
 | [], x, w :: ws, h => h w (by simp)
 | q :: qs, x, [], _ => ⟨hn, Int.le_refl _⟩
 | q :: qs, x, w :: ws, h => by
  unfold brF
  split
  · exact brF_place n hn qs _ ws (fun v hv => h v (by simp [hv]))
  · exact h w (by simp)
theorem readF_place (s : List UInt8) : 0 ≤ (readF s).2.1 ∧ (readF s).2.1 ≤ s.length := by
 obtain ⟨h1, h2⟩ := wordsF_place (spl 32 s) 0 (Int.le_refl _)
 have hl : lenL (spl 32 s) = s.length + 1 := lenL_splR 32 s []
 unfold readF
 split
 · rename_i p hp
   have := h2 p hp
   show 0 ≤ p ∧ p ≤ s.length
   omega
 · exact ⟨Int.le_refl _, by show (0 : Int) ≤ s.length; omega⟩
 · rename_i w ws hq hw
   have hall : ∀ v ∈ w :: ws, 0 ≤ v.2 ∧ v.2 ≤ (s.length : Int) := fun v hv => by
    have := h1 v (by rw [show (wordsF (spl 32 s) 0).1 = w :: ws from hw]; exact hv)
    omega
   obtain ⟨w0, p0⟩ := w
   rcases frmF_form w0 formsL with ⟨f, _, _, hfe⟩ | hno
   · rw [hfe]
     exact brF_place _ (by omega) _ _ _ (fun v hv => hall v (by simp [hv]))
   · rw [hno]
     exact ⟨Int.le_refl _, by show (0 : Int) ≤ s.length; omega⟩
theorem index_le : ∀ (l : List UInt8) (c : UInt8), Lib.indexByte l c ≤ l.length
 | [], _ => by show (-1 : Int) ≤ 0; omega
 | b :: l, c => by
  have := index_le l c
  unfold Lib.indexByte
  simp only [List.length_cons]
  split
  · omega
  · split <;> omega
theorem line_no {s : List UInt8} (h : (lineF s).2.1 = false) : (lineF s).1 = cmd0' 0 ∧ 0 ≤ (lineF s).2.2.2 ∧ (lineF s).2.2.2 ≤ s.length := by
 have hp := readF_place s
 have hi := index_le s 10
 unfold lineF at h ⊢
 split
 · rename_i h1; exact ⟨rfl, h1, hi⟩
 · rename_i h1
   rw [if_neg h1] at h
   split
   · exact ⟨rfl, Int.le_refl _, by show (0 : Int) ≤ s.length; omega⟩
   · rename_i h2
     rw [if_neg h2] at h
     split
     · rename_i h3; rw [if_pos h3] at h; cases h
     · exact ⟨rfl, hp⟩
/- The law. -/
theorem spel_len {m : Int} : ∀ {ws ts : List (List UInt8)}, spel m ws ts → ws.length = ts.length
 | [], [], _ => rfl
 | _ :: ws, _ :: ts, h => by rw [List.length_cons, List.length_cons, spel_len h.2]
theorem spel_bk {m : Int} : ∀ {ws ts : List (List UInt8)}, spel m ws ts → bkF m (ws.map SV.str) (ts.map SV.str) = true
 | [], [], _ => rfl
 | w :: ws, t :: ts, h => by
  rw [List.map_cons, List.map_cons, bkF, show asS (SV.str w) = w from rfl, show asS (SV.str t) = t from rfl, spel_bk h.2]
  rcases h.1 with rfl | ⟨h1, h2⟩
  · simp
  · rw [h1, h2]
    cases (w == t) <;> simp
theorem ret_bk {x : Cmd} {s u : List UInt8} (hs : s.length ≤ 3000) (hu : u.length ≤ 1000) (h : spel x.m (spl 32 s) (spl 32 u)) : crun (bkL x s u) = some (.bool true, []) := by
 have hl := spel_len h
 unfold bkL
 rw [decide_eq_true (by omega), cond_true, decide_eq_true (by omega), cond_true, show ((((spl 32 s).map SV.str).length : Int) != ((spl 32 u).map SV.str).length) = false by rw [List.length_map, List.length_map, hl]; simp, cond_false]
 have hlen : (spl 32 s).length ≤ s.length + 1 := splR_len 32 s []
 have hw : ∀ v ∈ (spl 32 s).map SV.str, (asS v).length ≤ 1000000 := fun v hv => by
  obtain ⟨w, hw, rfl⟩ := List.mem_map.1 hv
  have := splR_each 32 s [] w hw
  show w.length ≤ 1000000
  simp at this
  omega
 rw [dec_iff.2 (show bkOk ((spl 32 s).map SV.str) ((spl 32 u).map SV.str) 0 x.cs from ⟨by rw [List.length_map, List.length_map, hl], Int.le_refl _, by simp, by rw [List.length_map]; omega, hw, rfl⟩), cond_true]
 rw [show (0 : Int).toNat = 0 from rfl, List.drop_zero, List.drop_zero, spel_bk h]
 rfl
theorem okTx_line {x : Cmd} (h : lineF (lineTx x) = (x, true, 0, 0)) : okTx x = false := by
 unfold okTx
 rw [h]
 simp [cmdEq_self]
theorem bkP_true {s : List UInt8} (hs : s.length ≤ 3000) : crun (bkP s) = some (.bool true, []) := by
 unfold bkP bkS
 rw [decide_eq_true (by omega), cond_true]
 cases hi : (lineF s).2.1 with
 | false =>
  obtain ⟨h1, h2, h3⟩ := line_no hi
  rw [Bool.not_false, cond_true, h1, cmdEq_self, cond_true, decide_eq_true h2, cond_true, decide_eq_true h3]
  rfl
 | true =>
  obtain ⟨h1, h2, h3, h4⟩ := line_yes hi
  rw [Bool.not_true, cond_false, asCmd_cs, dec_iff.2 ⟨rfl, h2⟩, cond_true, okTx_line h3, cond_false, h1]
  rw [show (bif !(fEq (0, 0) (0, 0)) then true else false) = false from rfl, cond_false]
  exact ret_bk hs (lineTx_len h2) h4
theorem bkT_true {x : Cmd} {s : List UInt8} (hx : CmdOk x) : crun (bkT x s) = some (.bool true, []) := by
 unfold bkT
 by_cases hs : (s.length : Int) ≤ 3000
 · rw [decide_eq_true hs, Bool.not_true, cond_false, asCmd_cs, dec_iff.2 ⟨rfl, hx⟩, cond_true]
   cases ho : okTx x with
   | true => rw [cond_true]; exact bkP_true (by omega)
   | false =>
    have hlen := lineTx_len hx
    rw [cond_false, decide_eq_true (show (lineTx x).length ≤ 1000000 by omega), cond_true]
    unfold bkQ
    unfold okTx at ho
    have he : (lineF (lineTx x)).2.2.1 = 0 := by
     by_cases he : (lineF (lineTx x)).2.2.1 = 0
     · exact he
     · rw [show ((lineF (lineTx x)).2.2.1 != 0) = true by simpa using he] at ho
       cases ho
    rw [he] at ho
    rw [lineF_zero he]
    have : (bif (bif !(lineF (lineTx x)).2.1 then true else !(cmdEq (lineF (lineTx x)).1 x)) then true else !(fEq (0, 0) (0, 0))) = false := by
     simp only [bne_self_eq_false, cond_false] at ho
     rw [ho]
     rfl
    rw [this, cond_false]
    exact bkP_true (by omega)
 · rw [decide_eq_false hs, Bool.not_false, cond_true]
   rfl
end Go.Proofs.YtpelignoebgkbaaDoor
