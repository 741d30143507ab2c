/- FsmPair: what is done with the actions of a step. -/
import Derived.Test.YtbeolnccdhjjeaaPart2
import Derived.Test.YtbeolnccdhjjeaaMachine7
import Derived.Test.YtbeolnccdhjjeaaMachine8
set_option linter.unusedVariables false
set_option linter.unusedSimpArgs false
namespace Go.Proofs.Ytbeolnccdhjjeaa
open Go.Am
set_option maxRecDepth 100000
structure Ed where
 (s : Ses) (q : List SV) (ak dn : Bool)
def edN (e : Ed) (x n : Nat) : List SV := [.int .i64 e.s.ph, .int .u32 e.s.asn, .int .u32 e.s.id, .int .u32 e.s.pe, .int .i64 e.s.ho, .int .i64 e.s.re, .int .i64 e.s.rs, .bool e.s.pas, .bool e.s.rsd, .int .u32 e.s.oas, .int .i64 e.s.oh, .int .u32 e.s.oid, .int .i64 e.s.ors, .bool e.s.ord, .int .i64 e.s.hold, .int .i64 e.s.ex, .int .i64 e.s.al, .int .i64 e.s.ret, .qo x 26 n, .bool e.ak, .bool e.dn]
abbrev edC (e : Ed) (x : Nat) : List SV := edN e x e.q.length
def sesR (cs : List SV) : Ses := ⟨asI (cs.getD 0 .junk), asI (cs.getD 1 .junk), asI (cs.getD 2 .junk), asI (cs.getD 3 .junk), asI (cs.getD 4 .junk), asI (cs.getD 5 .junk), asI (cs.getD 6 .junk), asB (cs.getD 7 .junk), asB (cs.getD 8 .junk), asI (cs.getD 9 .junk), asI (cs.getD 10 .junk), asI (cs.getD 11 .junk), asI (cs.getD 12 .junk), asB (cs.getD 13 .junk), asI (cs.getD 14 .junk), asI (cs.getD 15 .junk), asI (cs.getD 16 .junk), asI (cs.getD 17 .junk)⟩
def edR (cs q : List SV) : Ed := ⟨sesR cs, q, asB (cs.getD 19 .junk), asB (cs.getD 20 .junk)⟩
def ltV (m : Msg) (t : Int) : SV := .agg [.int .i64 m.kind, .int .u32 m.mas, .int .i64 m.mh, .int .u32 m.mid, .int .i64 m.mrs, .bool m.mrd, .int .i64 m.code, .int .i64 m.sub, .int .i64 m.ori, .psl 22 m.path, .int .u32 m.nx, .bool m.hm, .int .u32 m.med, .bool m.hp, .int .u32 m.prf, .bool m.hor, .int .u32 m.orr, .psl 23 m.cl, .psl 119 m.cm, .int .i64 m.tk, .int .u32 m.tl, .int .u32 m.tr, .int .u32 m.tg, .psl 103 m.reach, .psl 103 m.un, .int .i64 t]
abbrev kOf (x : SV) : Int := asI (cellAt x 0)
def pf (t : Int) : List SV → Ed → Ed → Ed × Ed
 | [], a, b => (a, b)
 | x :: l, a, b => bif kOf x == 1 then pf t l a { b with q := b.q ++ [ltV (msgAt x) t] } else bif kOf x == 2 then pf t l { a with ak := true } b else bif kOf x == 5 then pf t l { a with dn := true } b else pf t l a b
noncomputable def dec (p : Prop) : Bool := (Classical.propDecidable p).decide
theorem dec_iff {p : Prop} : dec p = true ↔ p := by unfold dec; exact @decide_eq_true_iff _ (Classical.propDecidable _)
noncomputable def body45 : Code := Try.f45.body.getD .skip
noncomputable def c45 : Code := (loopAt 1 body45).getD .skip
def pfOk (ca qa cb qb xs : List SV) (n : Nat) (i : Int) : Prop := ca = edC (edR ca qa) 1 ∧ cb = edC (edR cb qb) 3 ∧ n = xs.length ∧ 0 ≤ i ∧ i ≤ n ∧ n ≤ 1000 ∧ qa.length ≤ 100000 ∧ (qb.length : Int) ≤ 100000 + i
def pfT (p : Ed × Ed) : CTree := .ret (.tup [.int .i64 2]) [(0, some (.cells 64 (edC p.1 1))), (2, some (.cells 64 (edC p.2 5))), (3, none), (5, some (.sqo 106 p.2.q))]
noncomputable def pf_s : CSumm := fun args H => match args, H with
 | [.ptr 0 0, .ptr 2 0, .qs 4 27 0 n, .int .i64 now, .int .i64 dl, .int .i64 i], [(0, .cells 64 ca), (1, .sqo 106 qa), (2, .cells 64 cb), (3, .sqo 106 qb), (4, .seq 57 xs)] =>
  .ite (dec (pfOk ca qa cb qb xs n i)) (pfT (pf (w64 (now + dl)) (xs.drop i.toNat) (edR ca qa) (edR cb qb))) .fail
 | _, _ => .fail
def pfM : List SV → HpL → Nat
 | [_, _, .qs _ _ _ n, _, _, .int _ i], _ => ((n : Int) - i).toNat
 | _, _ => 0
noncomputable def e45 : LEnt := { ins := [0, 1, 2, 3, 4, 10], outs := [], keep := [], size := 52, code := c45, s := pf_s }
noncomputable def pfN (N : Nat) (a b : Ed) (m : Nat) (xs : List SV) (n : Nat) (now dl i : Int) (K : Ed × Ed → CTree) : CTree := bif Nat.blt ((n : Int) - i).toNat N then bif dec (pfOk (edC a 1) a.q (edN b 3 m) b.q xs n i) then K (pf (w64 (now + dl)) (xs.drop i.toNat) a b) else .fail else .fail
end Go.Proofs.Ytbeolnccdhjjeaa
/- FsmPair: what is done with the actions, known; a step. -/
namespace Go.Proofs.Ytbeolnccdhjjeaa
open Go.Am
set_option maxRecDepth 100000
def pfX (p : Ed × Ed) : CTree := .ret (.tup [.int .i64 2]) [(3, none), (2, some (.cells 64 (edC p.2 5))), (0, some (.cells 64 (edC p.1 1))), (5, some (.sqo 106 p.2.q))]
theorem pf_t (N : Nat) (a b : Ed) (xs : List SV) (n : Nat) (now dl i : Int) : loopOnce Try.prog (openT Try.prog (tbl []) 300 5) (fun _ => false) (ltab []) true 300 e45 { e45 with s := boundT pfM pf_s N } c45 [.ptr 0 0, .ptr 2 0, .qs 4 27 0 n, .int .i64 now, .int .i64 dl, .int .i64 i] [(0, .cells 64 (edC a 1)), (1, .sqo 106 a.q), (2, .cells 64 (edC b 3)), (3, .sqo 106 b.q), (4, .seq 57 xs)] =
 bif decide (i < n) then bif inB i n then bif decide (0 + i.toNat < xs.length) then
  bif kOf (xs.getD (0 + i.toNat) .junk) == 1 then
   bif inB i n then bif decide (0 + i.toNat < xs.length) then bif decide (b.q.length = b.q.length) then bif decide (b.q.length + 1 ≤ 9223372036854775807) && decide ((b.q.length + 1) * Try.prog.types[106].bytes ≤ 140737488355328) then
    pfN N a { b with q := b.q ++ [ltV (msgAt (xs.getD (0 + i.toNat) .junk)) (w64 (now + dl))] } (b.q.length + 1) xs n now dl (w64 (i + 1)) pfT
   else .fail else .fail else .fail else .fail
  else bif kOf (xs.getD (0 + i.toNat) .junk) == 2 then pfN N { a with ak := true } b b.q.length xs n now dl (w64 (i + 1)) pfX
  else bif kOf (xs.getD (0 + i.toNat) .junk) == 5 then pfN N { a with dn := true } b b.q.length xs n now dl (w64 (i + 1)) pfX
  else pfN N a b b.q.length xs n now dl (w64 (i + 1)) pfX
 else .fail else .fail
 else .ret (.tup [.int .i64 2]) [] := by kernel_rfl
end Go.Proofs.Ytbeolnccdhjjeaa
/- FsmPair: what is done with the actions, known. -/
namespace Go.Proofs.Ytbeolnccdhjjeaa
open Go.Am
set_option maxRecDepth 100000
theorem pf_exit {a b : Ed} {xs : List SV} : ChainL Try.prog [(0, .cells 64 (edC a 1)), (1, .sqo 106 a.q), (2, .cells 64 (edC b 3)), (3, .sqo 106 b.q), (4, .seq 57 xs)] (.tup [.int .i64 2]) [] (.tup [.int .i64 2]) [(0, some (.cells 64 (edC a 1))), (2, some (.cells 64 (edC b 5))), (3, none), (5, some (.sqo 106 b.q))] := by
 refine .ren ⟨3, 5, by simp, by simp [namesS, namesL], fun x c hx => ?_, rfl, fun x => ?_⟩
 · simp only [updF] at hx
   have := HpL_get_some _ _ _ hx
   simp only [List.mem_cons, Prod.mk.injEq, List.not_mem_nil, or_false] at this
   rcases this with ⟨_, rfl⟩ | ⟨_, rfl⟩ | ⟨_, rfl⟩ | ⟨_, rfl⟩ | ⟨_, rfl⟩ <;> simp [namesC, namesL, namesS, edN]
 · match x with
   | 0 => rfl | 1 => rfl | 2 => rfl | 3 => rfl | 4 => rfl | 5 => rfl
   | x + 6 => simp only [updF, HpL.get, show ¬ (x + 6 = 5) by omega, show ¬ (x + 6 = 3) by omega, show ¬ (x + 6 = 2) by omega, show ¬ (x + 6 = 0) by omega, if_false, show Nat.beq 0 (x + 6) = false from nb_f (by omega), show Nat.beq 1 (x + 6) = false from nb_f (by omega), show Nat.beq 2 (x + 6) = false from nb_f (by omega), show Nat.beq 3 (x + 6) = false from nb_f (by omega), show Nat.beq 4 (x + 6) = false from nb_f (by omega), cond_false, Option.map_none]
theorem pf_flip {H : HpL} {p : Ed × Ed} {v' : SV} {ups' : List (Nat × Option Chunk)} (h : crun (pfT p) = some (v', ups')) : ∃ ups, crun (pfX p) = some (v', ups) ∧ ∀ x, updF ups' H.get x = updF ups H.get x := by
 cases h
 refine ⟨_, rfl, fun x => ?_⟩
 match x with
 | 0 => rfl | 1 => rfl | 2 => rfl | 3 => rfl | 4 => rfl | 5 => rfl
 | x + 6 => simp only [updF, show ¬ (x + 6 = 5) by omega, show ¬ (x + 6 = 3) by omega, show ¬ (x + 6 = 2) by omega, show ¬ (x + 6 = 0) by omega, if_false]
theorem bytes106 : decide (Try.prog.types[106].bytes ≤ 1000) = true := by kernel_rfl
theorem inB_ok {i : Int} {n : Nat} (h1 : 0 ≤ i) (h2 : i < n) : inB i n = true := by unfold inB; simp; omega
theorem getD_cons' {cs : List SV} {k : Nat} (h : k < cs.length) : cs.drop k = cs.getD k .junk :: cs.drop (k + 1) := by
 rw [List.drop_eq_getElem_cons h]
 simp [List.getD_eq_getElem?_getD, h]
theorem pf_valid : ValidL Try.prog e45 := loop_valid5 (T := ltab []) (sp := true) (fuel := 300) (c := c45) (μ := pfM) mixTry ltab_nil (show fillC (ltab []) c45 = c45 by kernel_rfl) (by
 intro N args H v' ups' hbt hr
 unfold e45 pf_s at hr
 simp only [] at hr
 split at hr
 · rename_i n now dl i ca qa cb qb xs
   rw [crun_ite] at hr
   cases hc : dec (pfOk ca qa cb qb xs n i) with
   | false => rw [hc] at hr; cases hr
   | true =>
    rw [hc, cond_true] at hr
    obtain ⟨ea, eb, rfl, i0, i1, n1, la, lb⟩ := dec_iff.1 hc
    generalize hA : edR ca qa = a at ea hr
    generalize hB : edR cb qb = b at eb hr
    have hqa : a.q = qa := by rw [← hA]; rfl
    have hqb : b.q = qb := by rw [← hB]; rfl
    subst hqa; subst hqb; subst ea; subst eb
    have hN : Nat.blt ((xs.length : Int) - i).toNat (N + 1) = true := hbt
    rw [Nat.blt_eq] at hN
    refine ⟨openT Try.prog (tbl []) 300 5, fun _ => false, openT_ok noNumTry mixTry ok0 300 5, ?_⟩
    have ht := pf_t N a b xs xs.length now dl i
    obtain ⟨k, rfl⟩ := Int.eq_ofNat_of_zero_le i0
    rw [show ((k : Nat) : Int).toNat = k from rfl, Nat.zero_add] at ht
    rw [show ((k : Nat) : Int).toNat = k from rfl] at hr
    by_cases hi : (k : Int) < xs.length
    · have hkl : k < xs.length := by omega
      rw [decide_eq_true hi, cond_true, inB_ok (by omega) (by omega), cond_true, cond_true, decide_eq_true hkl, cond_true, cond_true] at ht
      rw [getD_cons' hkl, pf] at hr
      have e1 : w64 ((k : Int) + 1) = ((k + 1 : Nat) : Int) := (w64_id (by omega) (by omega)).trans (by omega)
      rw [e1] at ht
      have hb := of_decide_eq_true bytes106
      have hb2 : (b.q.length + 1) * Try.prog.types[106].bytes ≤ (b.q.length + 1) * 1000 := Nat.mul_le_mul_left _ hb
      have next : ∀ (a' b' : Ed) (m : Nat) (K : Ed × Ed → CTree), m = b'.q.length → a'.q.length ≤ 100000 → (b'.q.length : Int) ≤ 100000 + ((k + 1 : Nat) : Int) → pfN N a' b' m xs xs.length now dl ((k + 1 : Nat) : Int) K = K (pf (w64 (now + dl)) (xs.drop (k + 1)) a' b') := by
       intro a' b' m K hm h1 h2
       subst hm
       unfold pfN
       rw [show Nat.blt ((xs.length : Int) - ((k + 1 : Nat) : Int)).toNat N = true by rw [Nat.blt_eq]; omega, cond_true, dec_iff.2 ⟨rfl, rfl, rfl, by omega, by omega, n1, h1, h2⟩, cond_true]
       rfl
      cases h1 : kOf (xs.getD k .junk) == 1 with
      | true =>
       rw [h1, cond_true] at hr ht
       rw [decide_eq_true rfl, cond_true, decide_eq_true (show b.q.length + 1 ≤ 9223372036854775807 by omega), decide_eq_true (show (b.q.length + 1) * Try.prog.types[106].bytes ≤ 140737488355328 by omega), Bool.and_self, cond_true, next _ _ _ _ (by simp) la (by simp; omega)] at ht
       exact ⟨v', ups', (congrArg crun ht).trans hr, .same fun _ => rfl⟩
      | false =>
       rw [h1, cond_false] at hr ht
       cases h2 : kOf (xs.getD k .junk) == 2 with
       | true =>
        rw [h2, cond_true] at hr ht
        rw [next { a with ak := true } b _ _ rfl la (by omega)] at ht
        obtain ⟨ups, g1, g2⟩ := pf_flip (H := [(0, .cells 64 (edC a 1)), (1, .sqo 106 a.q), (2, .cells 64 (edC b 3)), (3, .sqo 106 b.q), (4, .seq 57 xs)]) hr
        exact ⟨v', ups, (congrArg crun ht).trans g1, .same g2⟩
       | false =>
        rw [h2, cond_false] at hr ht
        cases h3 : kOf (xs.getD k .junk) == 5 with
        | true =>
         rw [h3, cond_true] at hr ht
         rw [next { a with dn := true } b _ _ rfl la (by omega)] at ht
         obtain ⟨ups, g1, g2⟩ := pf_flip (H := [(0, .cells 64 (edC a 1)), (1, .sqo 106 a.q), (2, .cells 64 (edC b 3)), (3, .sqo 106 b.q), (4, .seq 57 xs)]) hr
         exact ⟨v', ups, (congrArg crun ht).trans g1, .same g2⟩
        | false =>
         rw [h3, cond_false] at hr ht
         rw [next a b _ _ rfl la (by omega)] at ht
         obtain ⟨ups, g1, g2⟩ := pf_flip (H := [(0, .cells 64 (edC a 1)), (1, .sqo 106 a.q), (2, .cells 64 (edC b 3)), (3, .sqo 106 b.q), (4, .seq 57 xs)]) hr
         exact ⟨v', ups, (congrArg crun ht).trans g1, .same g2⟩
    · rw [decide_eq_false hi, cond_false] at ht
      have : xs.drop k = [] := List.drop_eq_nil_of_le (by omega)
      rw [this, pf] at hr
      refine ⟨_, _, congrArg crun ht, ?_⟩
      simp only [pfT, crun] at hr
      cases hr
      exact pf_exit
 · cases hr)
noncomputable abbrev T45 : LTab := ltab [("p", e45)]
noncomputable abbrev m45 : Code := markC [(1, "p")] body45
noncomputable def perf_b : CSumm := bodyCL Try.prog (openT Try.prog (tbl []) 300 5) (fun _ => false) T45 true 300 Try.f45 m45
theorem perf_k0 : Known Try.prog 45 perf_b := ⟨⟨Try.f45, Try.func45, noNum_at noNumTry Try.func45, rfl⟩, bodyL_valid (openT_ok noNumTry mixTry ok0 300 5) mixTry (ltab_cons pf_valid ltab_nil) Try.func45 (show Try.f45.body = some (fillC T45 m45) by kernel_rfl)⟩
end Go.Proofs.Ytbeolnccdhjjeaa
/- FsmPair: a step of one end. -/
namespace Go.Proofs.Ytbeolnccdhjjeaa
open Go.Am
set_option maxRecDepth 100000
def H4 (a b : Ed) : HpL := [(0, .cells 64 (edC a 1)), (1, .sqo 106 a.q), (2, .cells 64 (edC b 3)), (3, .sqo 106 b.q)]
def pfF (p : Ed × Ed) : CTree := .ret (.tup []) [(3, none), (2, some (.cells 64 (edC p.2 5))), (0, some (.cells 64 (edC p.1 1))), (5, some (.sqo 106 p.2.q))]
theorem perf_t (a b : Ed) (xs : List SV) (n : Nat) (now dl : Int) : perf_b [.ptr 0 0, .ptr 2 0, .qs 4 27 0 n, .int .i64 now, .int .i64 dl] [(0, .cells 64 (edC a 1)), (1, .sqo 106 a.q), (2, .cells 64 (edC b 3)), (3, .sqo 106 b.q), (4, .seq 57 xs)] =
 bif dec (pfOk (edC a 1) a.q (edC b 3) b.q xs n 0) then pfF (pf (w64 (now + dl)) (xs.drop (0 : Int).toNat) a b) else .fail := by kernel_rfl
noncomputable def perf_s : CSumm := fun args H => match args, H with
 | [.ptr 0 0, .ptr 2 0, .qs 4 27 0 n, .int .i64 now, .int .i64 dl], [(0, .cells 64 ca), (1, .sqo 106 qa), (2, .cells 64 cb), (3, .sqo 106 qb), (4, .seq 57 xs)] =>
  .ite (dec (pfOk ca qa cb qb xs n 0)) (pfF (pf (w64 (now + dl)) xs (edR ca qa) (edR cb qb))) .fail
 | _, _ => .fail
theorem perf_k : Known Try.prog 45 perf_s := perf_k0.weak (by
 intro args H v ups h
 unfold perf_s at h
 split at h
 · rename_i n now dl ca qa cb qb xs
   rw [crun_ite] at h
   cases hc : dec (pfOk ca qa cb qb xs n 0) with
   | false => rw [hc] at h; cases h
   | true =>
    rw [hc, cond_true] at h
    have hok := dec_iff.1 hc
    obtain ⟨ea, eb, hr⟩ := hok
    generalize hA : edR ca qa = a at ea h
    generalize hB : edR cb qb = b at eb h
    have hqa : a.q = qa := by rw [← hA]; rfl
    have hqb : b.q = qb := by rw [← hB]; rfl
    subst hqa; subst hqb; subst ea; subst eb
    refine (congrArg crun (perf_t a b xs n now dl)).trans ?_
    rw [dec_iff.2 ⟨rfl, rfl, hr⟩, cond_true]
    exact h
 · cases h)
noncomputable abbrev κt := tbl [(15, stepC stepL_s), (45, perf_s)]
theorem tOk : KOk Try.prog κt := tbl_cons stepL_k (tbl_cons perf_k ok0)
noncomputable def stE (a : Ed) (k : Int) (m : Msg) (now : Int) : Ed := { a with s := (stepP a.s k m now).1 }
noncomputable def stA (a : Ed) (k : Int) (m : Msg) (now : Int) : List SV := (stepP a.s k m now).2.map Act.v
def stF (p : Ed × Ed) : CTree := .ret (.tup []) [(2, some (.cells 64 (edC p.2 4))), (3, none), (0, some (.cells 64 (edC p.1 1))), (4, some (.sqo 106 p.2.q))]
theorem st_t (a b : Ed) (k : Int) (m : Msg) (now dl : Int) : opn κt Try.f21 [.ptr 0 0, .ptr 2 0, evV k m, .int .i64 now, .int .i64 dl] (H4 a b) =
 bif lightB m then bif dec (pfOk (edC (stE a k m now) 1) a.q (edC b 3) b.q (stA a k m now) (stepP a.s k m now).2.length 0) then stF (pf (w64 (now + dl)) (stA a k m now) (stE a k m now) b) else .fail else .fail := by kernel_rfl
end Go.Proofs.Ytbeolnccdhjjeaa
/- Sessions: bounds of lists of events. -/
namespace Go.Proofs.Ytbeolnccdhjjeaa
open Go.Am
set_option maxRecDepth 100000
def allL : Nat → List SV → Int → Bool
 | 0, _, _ => true
 | n + 1, es, i => bif lightM (msgAt (es.getD i.toNat .junk)) then allL n es (i + 1) else false
noncomputable def body10 : Code := Try.f10.body.getD .skip
noncomputable def c10 : Code := (loopAt 2 body10).getD .skip
def evsB (es : List SV) : Bool := bif allL (leftL es 0) es 0 then decide ((es.length : Int) ≤ 60) else false
end Go.Proofs.Ytbeolnccdhjjeaa
/- FsmInvalid. -/
namespace Go.Proofs.Ytbeolnccdhjjeaa
open Go.Am
set_option maxRecDepth 100000
end Go.Proofs.Ytbeolnccdhjjeaa
/- FsmAlive: what the code computes. -/
namespace Go.Proofs.Ytbeolnccdhjjeaa
open Go.Am
set_option maxRecDepth 100000
abbrev Ses.cs (s : Ses) : List SV := [.int .i64 s.ph, .int .u32 s.asn, .int .u32 s.id, .int .u32 s.pe, .int .i64 s.ho, .int .i64 s.re, .int .i64 s.rs, .bool s.pas, .bool s.rsd, .int .u32 s.oas, .int .i64 s.oh, .int .u32 s.oid, .int .i64 s.ors, .bool s.ord, .int .i64 s.hold, .int .i64 s.ex, .int .i64 s.al, .int .i64 s.ret]
noncomputable def body7 : Code := Try.f7.body.getD .skip
noncomputable def c7 : Code := (loopAt 6 body7).getD .skip
def aliveR : Nat → Int → Int → Int → Int → Int × Int
 | 0, _, _, ex, al => (ex, al)
 | n + 1, h, now, _, al => bif dueB al now then aliveR n h (now + 1) (now + h) (now + h.tdiv 3) else aliveR n h (now + 1) (now + h) al
def aliveI (h t last now ex al : Int) : Bool := decide (3 ≤ h) && decide (h ≤ 60) && decide (0 ≤ t) && decide (t ≤ 300) && decide (9 ≤ now) && decide (now ≤ t + 9) && decide (ex = now - 1 + h) && decide (al = last + h.tdiv 3) && decide (7 ≤ last) && decide (last < now) && (decide (last = 7) || decide (now ≤ al))
def left (t now : Int) : Nat := (t + 9 - now).toNat
def alive_s : CSumm
 | [.int .i64 h, .int .i64 t, .ptr 0 0, .int .i64 last, .int .i64 now], [(0, .cells 29 [.int .i64 4, .int .u32 65000, .int .u32 1, .int .u32 2, .int .i64 h', .int .i64 5, .int .i64 0, .bool false, .bool false, .int .u32 65000, .int .i64 h2, .int .u32 2, .int .i64 0, .bool false, .int .i64 h3, .int .i64 ex, .int .i64 al, .int .i64 (-1)])] =>
  .ite (aliveI h t last now ex al && decide (h' = h) && decide (h2 = h) && decide (h3 = h)) (.ite (left t now == 0) (.ret (.tup [.int .i64 2]) []) (.ret (.tup [.int .i64 2]) [(0, some (.cells 29 (Ses.cs (est h (aliveR (left t now) h now ex al).1 (aliveR (left t now) h now ex al).2))))])) .fail
 | _, _ => .fail
noncomputable def e7 : LEnt := { ins := [0, 1, 5, 6, 7], outs := [], keep := [], size := 87, code := c7, s := alive_s }
end Go.Proofs.Ytbeolnccdhjjeaa
/- FsmCalls. -/
namespace Go.Proofs.Ytbeolnccdhjjeaa
open Go.Am
set_option maxRecDepth 100000
theorem bif_ind {α : Type} {Q : α → Prop} (b : Bool) {x y : α} (h1 : Q x) (h2 : Q y) : Q (bif b then x else y) := by cases b <;> assumption
def Small (m : Msg) (p : Ses × List Act) : Prop := p.2.length ≤ 3 ∧ ∀ a ∈ p.2, a.m = m ∨ (a.m.path = [] ∧ a.m.cl = [] ∧ a.m.cm = [] ∧ a.m.reach = [] ∧ a.m.un = [])
theorem small_nil (m : Msg) (s : Ses) : Small m (s, []) := ⟨by simp, fun a h => by cases h⟩
theorem small_leave {m : Msg} (s s' : Ses) (r : Int) {l : List Act} (hl : l.length ≤ 2) (h : ∀ a ∈ l, a.m = m ∨ (a.m.path = [] ∧ a.m.cl = [] ∧ a.m.cm = [] ∧ a.m.reach = [] ∧ a.m.un = [])) : Small m (s', l ++ downL s r) := by
 unfold downL
 cases s.ph == 4 with
 | true =>
  refine ⟨by simp; omega, fun a ha => ?_⟩
  simp only [cond_true, List.mem_append, List.mem_singleton] at ha
  rcases ha with ha | rfl
  · exact h a ha
  · exact .inr ⟨rfl, rfl, rfl, rfl, rfl⟩
 | false => exact ⟨by simp; omega, fun a ha => h a (by simpa using ha)⟩
theorem small_one {m : Msg} {s : Ses} {a : Act} (h : a.m = m ∨ (a.m.path = [] ∧ a.m.cl = [] ∧ a.m.cm = [] ∧ a.m.reach = [] ∧ a.m.un = [])) : Small m (s, [a]) := ⟨by simp, fun b hb => by simp at hb; subst hb; exact h⟩
theorem small_fail {m : Msg} (s s' : Ses) (r code sub : Int) : Small m (s', [send { msg0 with kind := 3, code := code, sub := sub }, plain 3] ++ downL s r) := small_leave s s' r (by simp) (fun a ha => by
 simp only [List.mem_cons, List.not_mem_nil, or_false] at ha
 rcases ha with rfl | rfl <;> exact .inr ⟨rfl, rfl, rfl, rfl, rfl⟩)
theorem small_lv0 {m : Msg} (s s' : Ses) (r : Int) : Small m (s', [] ++ downL s r) := small_leave s s' r (by simp) (fun a ha => by cases ha)
theorem small_lv1 {m : Msg} (s s' : Ses) (r : Int) : Small m (s', [plain 3] ++ downL s r) := small_leave s s' r (by simp) (fun a ha => by simp at ha; subst ha; exact .inr ⟨rfl, rfl, rfl, rfl, rfl⟩)
theorem small_step (s : Ses) (k : Int) (m : Msg) (now : Int) : Small m (stepP s k m now) := by
 unfold stepP
 refine bif_ind _ ?_ (small_nil m s)
 unfold stepG laterG
 simp only [leaveG_eq, failG_eq, setRetryG_eq, setHoldG_eq, setAliveG_eq]
 repeat' (first
  | exact small_nil m _
  | exact small_fail _ _ _ _ _
  | exact small_lv0 _ _ _
  | exact small_lv1 _ _ _
  | exact small_one (.inr ⟨rfl, rfl, rfl, rfl, rfl⟩)
  | exact small_one (.inl rfl)
  | apply bif_ind)
theorem msgAt_v (a : Act) : msgAt a.v = a.m := rfl
abbrev kindAt (es : List SV) (i : Int) : Int := asI (cellAt (es.getD i.toNat .junk) 0)
abbrev evMsg (es : List SV) (i : Int) : Msg := msgAt (es.getD i.toNat .junk)
abbrev timeAt (ts : List SV) (i : Int) : Int := asI (ts.getD i.toNat .junk)
noncomputable def stepAt (es ts : List SV) (i : Int) (s : Ses) : Ses × List Act := stepP s (kindAt es i) (evMsg es i) (timeAt ts i)
noncomputable def runS : Nat → List SV → List SV → Int → Ses → Ses
 | 0, _, _, _, s => s
 | n + 1, es, ts, i, s => runS n es ts (i + 1) (stepAt es ts i s).1
noncomputable def body3 : Code := Try.f3.body.getD .skip
noncomputable def c3 : Code := (loopAt 11 body3).getD .skip
abbrev sesC (s : Ses) : Chunk := .cells 29 s.cs
def sesOf (cs : List SV) : Ses := ⟨asI (cs.getD 0 .junk), asI (cs.getD 1 .junk), asI (cs.getD 2 .junk), asI (cs.getD 3 .junk), asI (cs.getD 4 .junk), asI (cs.getD 5 .junk), asI (cs.getD 6 .junk), asB (cs.getD 7 .junk), asB (cs.getD 8 .junk), asI (cs.getD 9 .junk), asI (cs.getD 10 .junk), asI (cs.getD 11 .junk), asI (cs.getD 12 .junk), asB (cs.getD 13 .junk), asI (cs.getD 14 .junk), asI (cs.getD 15 .junk), asI (cs.getD 16 .junk), asI (cs.getD 17 .junk)⟩
open Classical in
noncomputable def eqL (xs ys : List SV) : Bool := decide (xs = ys)
noncomputable def callsI (es ts : List SV) (i : Int) (c0 c1 c2 c3 : List SV) : Bool := evsB es && decide (es.length ≤ ts.length) && decide (0 ≤ i) && decide (i ≤ es.length) && eqL c0 (sesOf c0).cs && eqL c1 (sesOf c1).cs && eqL c2 c1 && eqL c3 c0
noncomputable def callsL : CSumm
 | [.psl 52 es, .psl 3 ts, .ptr 0 0, .ptr 1 0, .ptr 2 0, .ptr 3 0, .int .i64 i], [(0, .cells 29 c0), (1, .cells 29 c1), (2, .cells 29 c2), (3, .cells 29 c3)] =>
  .ite (callsI es ts i c0 c1 c2 c3) (.ite (leftL es i == 0) (.ret (.tup [.int .i64 2]) []) (.ret (.tup [.int .i64 2]) [(3, some (sesC (runS (leftL es i) es ts i (sesOf c0)))), (0, some (sesC (runS (leftL es i) es ts i (sesOf c0)))), (2, some (sesC (runS (leftL es i) es ts i (sesOf c1)))), (1, some (sesC (runS (leftL es i) es ts i (sesOf c1))))])) .fail
 | _, _ => .fail
noncomputable def e3 : LEnt := { ins := [2, 3, 5, 9, 11, 13, 14], outs := [], keep := [], size := 152, code := c3, s := callsL }
end Go.Proofs.Ytbeolnccdhjjeaa
/- FsmPair: a step of one end, known; the letters that arrive. -/
namespace Go.Proofs.Ytbeolnccdhjjeaa
open Go.Am
set_option maxRecDepth 100000
def stOk (ca qa cb qb ev : List SV) : Prop := ca = edC (edR ca qa) 1 ∧ cb = edC (edR cb qb) 3 ∧ ev = .int .i64 (kOf (.agg ev)) :: (msgAt (.agg ev)).cs ∧ lightB (msgAt (.agg ev)) = true ∧ qa.length ≤ 100000 ∧ qb.length ≤ 100000
noncomputable def stP (k : Int) (m : Msg) (now dl : Int) (a b : Ed) : Ed × Ed := pf (w64 (now + dl)) (stA a k m now) (stE a k m now) b
noncomputable def st_s : CSumm := fun args H => match args, H with
 | [.ptr 0 0, .ptr 2 0, .agg ev, .int .i64 now, .int .i64 dl], [(0, .cells 64 ca), (1, .sqo 106 qa), (2, .cells 64 cb), (3, .sqo 106 qb)] =>
  .ite (dec (stOk ca qa cb qb ev)) (stF (stP (kOf (.agg ev)) (msgAt (.agg ev)) now dl (edR ca qa) (edR cb qb))) .fail
 | _, _ => .fail
def One (p : Ses × List Act) : Prop := (p.2.filter (fun a => a.kind == 1)).length ≤ 1
theorem one_nil (s : Ses) : One (s, []) := by simp [One]
theorem one_leave (s s' : Ses) (r : Int) {l : List Act} (h : (l.filter (fun a => a.kind == 1)).length ≤ 1) : One (s', l ++ downL s r) := by
 unfold One downL
 cases s.ph == 4 with
 | true => simpa [List.filter_append] using h
 | false => simpa [List.filter_append] using h
theorem one_fail (s s' : Ses) (r code sub : Int) : One (s', [send { msg0 with kind := 3, code := code, sub := sub }, plain 3] ++ downL s r) := one_leave s s' r (by simp)
theorem one_lv0 (s s' : Ses) (r : Int) : One (s', [] ++ downL s r) := one_leave s s' r (by decide)
theorem one_lv1 (s s' : Ses) (r : Int) : One (s', [plain 3] ++ downL s r) := one_leave s s' r (by decide)
theorem one_one {s : Ses} {a : Act} : One (s, [a]) := by
 unfold One
 cases h : a.kind == 1 <;> simp [h]
theorem one_step (s : Ses) (k : Int) (m : Msg) (now : Int) : One (stepP s k m now) := by
 unfold stepP
 refine bif_ind _ ?_ (one_nil s)
 unfold stepG laterG
 simp only [leaveG_eq, failG_eq, setRetryG_eq, setHoldG_eq, setAliveG_eq]
 repeat' (first
  | exact one_nil _
  | exact one_fail _ _ _ _ _
  | exact one_lv0 _ _ _
  | exact one_lv1 _ _ _
  | exact one_one
  | apply bif_ind)
theorem st_k0 : Known Try.prog 21 (opn κt Try.f21) := openKnown tOk Try.func21 rfl
theorem st_k : Known Try.prog 21 st_s := st_k0.weak (by
 intro args H v ups h
 unfold st_s at h
 split at h
 · rename_i ev now dl ca qa cb qb
   rw [crun_ite] at h
   cases hc : dec (stOk ca qa cb qb ev) with
   | false => rw [hc] at h; cases h
   | true =>
    rw [hc, cond_true] at h
    obtain ⟨ea, eb, ee, hl, la, lb⟩ := dec_iff.1 hc
    generalize hA : edR ca qa = a at ea h
    generalize hB : edR cb qb = b at eb h
    generalize hK : kOf (.agg ev) = k at ee h
    generalize hM : msgAt (.agg ev) = m at ee h hl
    have hqa : a.q = qa := by rw [← hA]; rfl
    have hqb : b.q = qb := by rw [← hB]; rfl
    subst hqa; subst hqb; subst ea; subst eb; subst ee
    refine (congrArg crun (st_t a b k m now dl)).trans ?_
    have h3 := (small_step a.s k m now).1
    rw [hl, cond_true, dec_iff.2 ⟨rfl, rfl, by unfold stA; rw [List.length_map], by omega, by omega, by omega, la, by omega⟩, cond_true]
    exact h
 · cases h)
abbrev evCo5 : List (List (Option TypeId)) := [[], [], evCo, [], []]
theorem stC_k : Known Try.prog 21 (coS evCo5 st_s) := st_k.co _
def ltM (x : SV) : Msg := ⟨asI (cellAt x 0), asI (cellAt x 1), asI (cellAt x 2), asI (cellAt x 3), asI (cellAt x 4), asB (cellAt x 5), asI (cellAt x 6), asI (cellAt x 7), asI (cellAt x 8), asL (cellAt x 9), asI (cellAt x 10), asB (cellAt x 11), asI (cellAt x 12), asB (cellAt x 13), asI (cellAt x 14), asB (cellAt x 15), asI (cellAt x 16), asL (cellAt x 17), asL (cellAt x 18), asI (cellAt x 19), asI (cellAt x 20), asI (cellAt x 21), asI (cellAt x 22), asL (cellAt x 23), asL (cellAt x 24)⟩
abbrev ltT (x : SV) : Int := asI (cellAt x 25)
theorem ltM_V (m : Msg) (t : Int) : ltM (ltV m t) = m := rfl
noncomputable def ar (now dl : Int) : List SV → Ed → Ed → Ed × Ed
 | [], a, b => ({ a with q := [] }, b)
 | x :: l, a, b => bif decide (ltT x ≤ now) then ar now dl l (stP 5 (ltM x) now dl { a with q := l } b).1 (stP 5 (ltM x) now dl { a with q := l } b).2 else ({ a with q := x :: l }, b)
noncomputable def body22 : Code := Try.f22.body.getD .skip
noncomputable def c22 : Code := (loopAt 0 body22).getD .skip
def arOk (ca qa cb qb : List SV) : Prop := ca = edC (edR ca qa) 1 ∧ cb = edC (edR cb qb) 3 ∧ qa.length ≤ 10000 ∧ qb.length + qa.length ≤ 20000 ∧ ∀ x ∈ qa, lightB (ltM x) = true
def arT (p : Ed × Ed) : CTree := .ret (.tup [.int .i64 2]) [(3, none), (2, some (.cells 64 (edC p.2 4))), (0, some (.cells 64 (edC p.1 5))), (1, none), (4, some (.sqo 106 p.2.q)), (5, some (.sqo 106 p.1.q))]
noncomputable def ar_s : CSumm := fun args H => match args, H with
 | [.ptr 0 0, .ptr 2 0, .int .i64 now, .int .i64 dl], [(0, .cells 64 ca), (1, .sqo 106 qa), (2, .cells 64 cb), (3, .sqo 106 qb)] =>
  .ite (dec (arOk ca qa cb qb)) (arT (ar now dl qa (edR ca qa) (edR cb qb))) .fail
 | _, _ => .fail
def arM : List SV → HpL → Nat
 | _, (0, _) :: (1, .sqo _ qa) :: _ => qa.length
 | _, _ => 0
noncomputable def e22 : LEnt := { ins := [0, 1, 2, 3], outs := [], keep := [], size := 48, code := c22, s := ar_s }
noncomputable abbrev κrr := tbl [(21, coS evCo5 st_s)]
theorem rrOk : KOk Try.prog κrr := tbl_cons stC_k ok0
end Go.Proofs.Ytbeolnccdhjjeaa
/- FsmPair: the letters that arrive: a round. -/
namespace Go.Proofs.Ytbeolnccdhjjeaa
open Go.Am
set_option maxRecDepth 100000
noncomputable def arN (N : Nat) (p : Ed × Ed) (q : List SV) (now dl : Int) : CTree := bif Nat.blt q.length N then bif dec (arOk (edC p.1 1) q (edC p.2 3) p.2.q) then arT (ar now dl q { p.1 with q := q } p.2) else .fail else .fail
def arE : CTree := .ret (.tup [.int .i64 2]) []
noncomputable def arS (N : Nat) (a b : Ed) (now dl : Int) : CTree :=
 bif dec (stOk (edN { a with q := a.q.drop 1 } 1 (a.q.length - 1)) (a.q.drop 1) (edC b 3) b.q (.int .i64 5 :: (ltM (a.q.getD 0 .junk)).cs)) then
  arN N (stP 5 (ltM (a.q.getD 0 .junk)) now dl { a with q := a.q.drop 1 } b) (a.q.drop 1) now dl else .fail
theorem ar_t (N : Nat) (a b : Ed) (now dl : Int) : loopOnce Try.prog κrr (fun _ => false) (ltab []) true 300 e22 { e22 with s := boundT arM ar_s N } c22 [.ptr 0 0, .ptr 2 0, .int .i64 now, .int .i64 dl] (H4 a b) =
 bif decide ((a.q.length : Int) > 0) then bif inB 0 a.q.length then bif decide (0 < a.q.length) then bif decide (ltT (a.q.getD 0 .junk) ≤ now) then
  bif inB 0 a.q.length then bif decide (0 < a.q.length) then
   bif decide (1 ≤ (a.q.length : Int)) && decide (a.q.length = a.q.length) then arS N a b now dl else .fail
  else .fail else .fail
 else arE else .fail else .fail else arE := by kernel_rfl
end Go.Proofs.Ytbeolnccdhjjeaa
