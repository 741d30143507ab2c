/- Messages: the loop over the messages of a stream: what it comes to. -/
import Derived.Test.YtnlmhpancboddaaGreatPart20
import Derived.Test.YtnlmhpancboddaaGreatMachine6
set_option linter.unusedVariables false
set_option linter.unusedSimpArgs false
namespace Go.Proofs.YtnlmhpancboddaaGreat
open Go.Am
set_option maxRecDepth 100000
noncomputable def Bu:Code:=Tryz.f31.body.getD .skip
noncomputable def c31:Code:=(bx 0 Bu).getD .skip
noncomputable def m31:Code:=bF [(0, "m")] Bu
noncomputable def rng9:Array Nat × Code × Code:=(lJ (Tryz.f9.body.getD .skip)).getD (#[],.skip,.skip)
def vs9(d n:Nat):List SV:=[.qs 1 1 0 n,.junk,.ptr 2 0,.ptr (3+d) 0,.ptr (4+d) 0,.ptr (5+d) 0,.junk,.junk,.qs 1 1 0 n,.fn (.func 31) [] [.ptr (6+d) 0,.ptr (7+d) 0]]++List.replicate 17 .junk
noncomputable def lr9(d:Nat)(st:LS)(n:Nat):Chunk:=.loopr st (vs9 d n) rng9.1 rng9.2.1 rng9.2.2
noncomputable def HS0(n:Nat)(es:List SV)(a:Int):HpL:=[(0,lr9 0 .ready n),(1,.seq 5 es),(2,.cells 25 [.nils]),(3,.cells 22 [.nils]),(4,.cells 28 [.int .i64 0,.int .i64 0]),(5,.cells 3 [.int .i64 a]),(6,.cells 22 [.qs 1 1 0 n]),(7,.cells 62 [.ptr 5 0])]
noncomputable def HS1(n:Nat)(es:List SV)(a:Int)(m:Nat)(rs:List SV):HpL:=[(0,lr9 1 .ready n),(1,.seq 5 es),(2,.cells 25 [.qs 3 25 0 m]),(3,.seq 52 rs),(4,.cells 22 [.nils]),(5,.cells 28 [.int .i64 0,.int .i64 0]),(6,.cells 3 [.int .i64 a]),(7,.cells 22 [.qs 1 1 0 n]),(8,.cells 62 [.ptr 6 0])]
noncomputable def spF:Nat->List SV->Nat->List SV->Int × Nat × List SV
 | 0,_,a,rs=>(0,a,rs)
 | f+1,es,a,rs=>
  bif(hdP (es.drop a)).2 !=0 then((hdP (es.drop a)).2,a,rs)else bif(hdP (es.drop a)).1==0 then(0,a,rs)else
  bif(rdP (dg (es.drop a) 18) (sl (es.drop a) 19 ((hdP (es.drop a)).1.toNat - 19))).2 !=0 then((rdP (dg (es.drop a) 18) (sl (es.drop a) 19 ((hdP (es.drop a)).1.toNat - 19))).2,a,rs)
  else spF f es (a+(hdP (es.drop a)).1.toNat) (rs++[mgV (rdP (dg (es.drop a) 18) (sl (es.drop a) 19 ((hdP (es.drop a)).1.toNat - 19))).1])
noncomputable def spL(es:List SV)(a:Nat)(rs:List SV):Int × Nat × List SV:=spF (es.length - a) es a rs
def spO(n:Nat)(es:List SV)(a:Int)(rs:List SV):Prop:=byl es/\n=es.length/\es.length<=1000000/\0<=a/\a<=n/\rs.length+(es.length - a.toNat)<=2000000
noncomputable def sp0(n:Nat)(r:Int × Nat × List SV):CTree:=
 .ite (decide (r.2.2.length=0))
  (.ite (r.1==0) (.ret (.tup [.int .i64 1]) []) (.ret (.tup [.int .i64 1]) [(4,some (.cells 28 [.int .i64 r.1,.int .i64 r.2.1])),(0,some (lr9 0 (.done .ret) n))]))
  (.ite (r.1==0) (.ret (.tup [.int .i64 1]) [(2,some (.cells 25 [.qs 8 25 0 r.2.2.length])),(5,some (.cells 3 [.int .i64 r.2.1])),(8,some (.seq 52 r.2.2))])
   (.ret (.tup [.int .i64 1]) [(2,some (.cells 25 [.qs 8 25 0 r.2.2.length])),(5,some (.cells 3 [.int .i64 r.2.1])),(4,some (.cells 28 [.int .i64 r.1,.int .i64 r.2.1])),(0,some (lr9 0 (.done .ret) n)),(8,some (.seq 52 r.2.2))]))
noncomputable def sp1(n:Nat)(r:Int × Nat × List SV):CTree:=
 .ite (r.1==0) (.ret (.tup [.int .i64 1]) [(2,some (.cells 25 [.qs 9 25 0 r.2.2.length])),(3,none),(6,some (.cells 3 [.int .i64 r.2.1])),(9,some (.seq 52 r.2.2))])
  (.ret (.tup [.int .i64 1]) [(2,some (.cells 25 [.qs 9 25 0 r.2.2.length])),(3,none),(6,some (.cells 3 [.int .i64 r.2.1])),(5,some (.cells 28 [.int .i64 r.1,.int .i64 r.2.1])),(0,some (lr9 1 (.done .ret) n)),(9,some (.seq 52 r.2.2))])
def sOf:HpL->Option (Nat × List SV × Int × Option (Nat × List SV))
 | [(0,_),(1,.seq 5 es),(2,.cells 25 [.nils]),(3,_),(4,_),(5,.cells 3 [.int .i64 a]),(6,.cells 22 [.qs 1 1 0 n]),(7,_)]=>some (n,es,a,none)
 | [(0,_),(1,.seq 5 es),(2,.cells 25 [.qs 3 25 0 m]),(3,.seq 52 rs),(4,_),(5,_),(6,.cells 3 [.int .i64 a]),(7,.cells 22 [.qs 1 1 0 n]),(8,_)]=>some (n,es,a,some (m,rs))
 | _=>none
noncomputable def tY:ag:=fun args H=>match args with
 | [.yl 0,.ptr b 0,.ptr c 0]=>match sOf H with
  | some (n,es,a,none)=>.ite (dec (b=6/\c=7/\H=HS0 n es a/\spO n es a [])) (sp0 n (spL es a.toNat [])) .fail
  | some (n,es,a,some (m,rs))=>.ite (dec (b=7/\c=8/\H=HS1 n es a m rs/\m=rs.length/\spO n es a rs)) (sp1 n (spL es a.toNat rs)) .fail
  | none=>.fail
 | _=>.fail
def IZ:List SV->HpL->Nat
 | _,H=>match sOf H with
  | some (n,_,a,_)=>n - a.toNat
  | none=>0
noncomputable def e31:LEnt:={ins:=[0,1,2],outs:=[],keep:=[],size:=58,code:=c31,s:=tY}
noncomputable abbrev κsp:=bt Tryz.prog (tbl [(32,oE),(33,oJ)]) 300 5
noncomputable abbrev ιsp:Nat->Bool:=fun g=>inl (tbl [(32,oE),(33,oJ)]) g&&bJ Tryz.prog g
theorem ye:KOk Tryz.prog κsp:=aG ap ax (ac Fc (ac Gp ok0)) 300 5
/- A round. -/
noncomputable def hdC(es:List SV)(n:Nat)(a:Int)(K:Int × Int->CTree):CTree:=
 bif decide (0<=a)&&decide (a<=n)&&decide ((n:Int)<=n)then bif dec (byl es/\0+a.toNat+((n:Int).toNat - a.toNat)<=es.length/\es.length<=1000000)then K (hdP (sl es (0+a.toNat) ((n:Int).toNat - a.toNat)))else .fail else .fail
noncomputable def Fa(es:List SV)(n:Nat)(a sz:Int)(K:Mg × Int->CTree):CTree:=
 bif inB 18 ((n:Int).toNat - a.toNat)then bif decide (0+a.toNat+18 < es.length)then bif decide ((0:Int)<=19)&&decide (19<=sz)&&decide (sz<=(((n:Int).toNat - a.toNat:Nat):Int))then
  bif dec (byl es/\0+a.toNat+(19:Int).toNat+(sz.toNat - (19:Int).toNat)<=es.length/\es.length<=1000000)then K (rdP (w64 (dg es (0+a.toNat+18))) (sl es (0+a.toNat+(19:Int).toNat) (sz.toNat - (19:Int).toNat)))else .fail else .fail else .fail else .fail
noncomputable def tZ(d n:Nat)(e a:Int)(L:SV)(K:CTree):CTree:=bif e !=0 then .ret (.tup [.int .i64 1]) [(4+d,some (.cells 28 [.int .i64 e,.int .i64 a])),(3+d,some (.cells 22 [.nils])),(2,some (.cells 25 [L])),(0,some (lr9 d (.done .ret) n))]else K
noncomputable def LO(n:Nat):CTree:=.ret (.tup [.int .i64 1]) [(2,some (.cells 25 [.qs 8 25 0 1])),(0,some (lr9 0 .ready n)),(8,some (.seq 52 [mgV mg0]))]
noncomputable def I0(N n:Nat)(es:List SV)(a:Int)(rs:List SV):CTree:=
 bif Nat.blt (n - a.toNat) N then bif dec (7=7/\8=8/\HS1 n es a 1 rs=HS1 n es a 1 rs/\1=rs.length/\spO n es a rs)then
  (fun r:Int × Nat × List SV=>bif r.1==0 then .ret (.tup [.int .i64 1]) [(2,some (.cells 25 [.qs 8 25 0 r.2.2.length])),(0,some (lr9 0 .ready n)),(5,some (.cells 3 [.int .i64 r.2.1])),(8,some (.seq 52 r.2.2))]
   else .ret (.tup [.int .i64 1]) [(4,some (.cells 28 [.int .i64 r.1,.int .i64 r.2.1])),(2,some (.cells 25 [.qs 8 25 0 r.2.2.length])),(0,some (lr9 0 (.done .ret) n)),(5,some (.cells 3 [.int .i64 r.2.1])),(8,some (.seq 52 r.2.2))]) (spL es a.toNat rs)else .fail else .fail
theorem I1(N n:Nat)(es:List SV)(a:Int):ay Tryz.prog κsp ιsp (aL []) true 300 e31 {e31 with s:=az IZ tY N} c31 [.yl 0,.ptr 6 0,.ptr 7 0] (HS0 n es a)=
 hdC es n a fun h=>bif(bif h.2==0 then h.1==0 else false)then .ret (.tup [.int .i64 1]) []else
  bif h.2==0 then Fa es n a h.1 fun q=>bif q.2 !=0 then tZ 0 n q.2 a .nils (LO n)else I0 N n es (w64 (a+h.1)) [mgV q.1]
  else bif h.2 !=0 then tZ 0 n h.2 a .nils (LO n)else I0 N n es (w64 (a+h.1)) [mgV mg0]:=by kernel_rfl
noncomputable def gr9(m:Nat)(rs:List SV)(K:CTree):CTree:=bif decide (m=rs.length)then bif decide (rs.length+1<=9223372036854775807)&&decide ((rs.length+1) * Tryz.prog.types[52].bytes<=140737488355328)then K else .fail else .fail
noncomputable def LP(n m:Nat)(rs:List SV):CTree:=gr9 m rs (.ret (.tup [.int .i64 1]) [(2,some (.cells 25 [.qs 9 25 0 (rs.length+1)])),(3,none),(0,some (lr9 1 .ready n)),(9,some (.seq 52 (rs++[mgV mg0])))])
noncomputable def I2(N n:Nat)(es:List SV)(a:Int)(m:Nat)(rs:List SV)(x:SV):CTree:=gr9 m rs (
 bif Nat.blt (n - a.toNat) N then bif dec (7=7/\8=8/\HS1 n es a (rs.length+1) (rs++[x])=HS1 n es a (rs.length+1) (rs++[x])/\rs.length+1=(rs++[x]).length/\spO n es a (rs++[x]))then
  (fun r:Int × Nat × List SV=>bif r.1==0 then .ret (.tup [.int .i64 1]) [(2,some (.cells 25 [.qs 9 25 0 r.2.2.length])),(3,none),(0,some (lr9 1 .ready n)),(6,some (.cells 3 [.int .i64 r.2.1])),(9,some (.seq 52 r.2.2))]
   else .ret (.tup [.int .i64 1]) [(5,some (.cells 28 [.int .i64 r.1,.int .i64 r.2.1])),(2,some (.cells 25 [.qs 9 25 0 r.2.2.length])),(3,none),(0,some (lr9 1 (.done .ret) n)),(6,some (.cells 3 [.int .i64 r.2.1])),(9,some (.seq 52 r.2.2))]) (spL es a.toNat (rs++[x]))else .fail else .fail)
theorem I3(N n m:Nat)(es rs:List SV)(a:Int):ay Tryz.prog κsp ιsp (aL []) true 300 e31 {e31 with s:=az IZ tY N} c31 [.yl 0,.ptr 7 0,.ptr 8 0] (HS1 n es a m rs)=
 hdC es n a fun h=>bif(bif h.2==0 then h.1==0 else false)then .ret (.tup [.int .i64 1]) []else
  bif h.2==0 then Fa es n a h.1 fun q=>bif q.2 !=0 then tZ 1 n q.2 a (.qs 3 25 0 m) (LP n m rs)else I2 N n es (w64 (a+h.1)) m rs (mgV q.1)
  else bif h.2 !=0 then tZ 1 n h.2 a (.qs 3 25 0 m) (LP n m rs)else I2 N n es (w64 (a+h.1)) m rs (mgV mg0):=by kernel_rfl
theorem b52:decide (Tryz.prog.types[52].bytes<=1000)=true:=by kernel_rfl
theorem ei       (p:List SV):(hdP p).2=0->(hdP p).1=0\/(19<=(hdP p).1/\(hdP p).1<=p.length/\(hdP p).1<=4096):=by
 intro h
 unfold hdP at h ⊢
 by_cases h19:p.length < 19
 . rw[dT0 h19];exact .inl rfl
 . rw[dF0             h19,cF        ]at h ⊢
   cases c1: !mkd (p.take 16)with
   | true=>rw[c1]at h;cases h
   | false=>
    rw[c1,cF]at h
    rw[cF]
    by_cases s1:tkN p 16 2 < 19
    . rw[dT0 s1]at h;cases h
    . by_cases s2:tkN p 16 2 > 4096
      . rw[dT0 s2,dF0 s1]at h;cases h
      . rw[dF0 s1,dF0 s2,cF,cF]at h ⊢
        cases c3:(bif decide (dg p 18 < 1)then true else decide (dg p 18 > 5))with
        | true=>rw[c3]at h;cases h
        | false=>
         rw[cF]
         by_cases s4:(p.length:Int) < tkN p 16 2
         . rw[dT0 s4];exact .inl rfl
         . rw[dF0 s4,cF];exact .inr ⟨by simp only[];omega,by simp only[];omega,by simp only[];omega⟩
theorem ni{p:List SV}(h:p.length < 19):hdP p=(0,0):=by unfold hdP;rw[dT0 h];rfl
theorem l8      :∀ (f:Nat) (es:List SV) (a:Nat) (rs:List SV),es.length - a<=f->spF f es a rs=spF (es.length - a) es a rs
 | 0,es,a,rs,h=>by rw[show es.length - a=0 by omega]
 | f+1,es,a,rs,h=>by
  cases hl:es.length - a with
  | zero=>
   have:(es.drop a).length < 19:=by rw[List.length_drop];omega
   unfold spF
   rw[ni this];rfl
  | succ g=>
   conv=>lhs;unfold spF
   conv=>rhs;unfold spF
   cases c1:(hdP (es.drop a)).2 !=0 with
   | true=>rfl
   | false=>
    rw[cF,cF]
    cases c2:(hdP (es.drop a)).1==0 with
    | true=>rfl
    | false=>
     have hc:=ei (es.drop a) (by simpa using c1)
     have h0:(hdP (es.drop a)).1≠0:=by simpa using c2
     obtain⟨h1,h2,h3⟩:=hc.resolve_left h0
     rw[List.length_drop]at h2
     rw[cF,cF,l8 f es _ _ (by omega),l8 g es _ _ (by omega)]
theorem gg(es:List SV)(a:Nat)(rs:List SV):spL es a rs=
  bif(hdP (es.drop a)).2 !=0 then((hdP (es.drop a)).2,a,rs)else bif(hdP (es.drop a)).1==0 then(0,a,rs)else
  bif(rdP (dg (es.drop a) 18) (sl (es.drop a) 19 ((hdP (es.drop a)).1.toNat - 19))).2 !=0 then((rdP (dg (es.drop a) 18) (sl (es.drop a) 19 ((hdP (es.drop a)).1.toNat - 19))).2,a,rs)
  else spL es (a+(hdP (es.drop a)).1.toNat) (rs++[mgV (rdP (dg (es.drop a) 18) (sl (es.drop a) 19 ((hdP (es.drop a)).1.toNat - 19))).1]):=by
 conv=>lhs;unfold spL
 rw[<- l8 (es.length - a+1) es a rs (by omega)]
 conv=>lhs;unfold spF
 cases c1:(hdP (es.drop a)).2 !=0 with
 | true=>rfl
 | false=>
  rw[cF,cF]
  cases c2:(hdP (es.drop a)).1==0 with
  | true=>rfl
  | false=>
   have hc:=ei (es.drop a) (by simpa using c1)
   have h0:(hdP (es.drop a)).1≠0:=by simpa using c2
   obtain⟨h1,h2,h3⟩:=hc.resolve_left h0
   rw[List.length_drop]at h2
   unfold spL
   rw[cF,cF,l8 (es.length - a) es _ _ (by omega)]
theorem oK:∀ (f:Nat) (es:List SV) (a:Nat) (rs:List SV),rs.length<=(spF f es a rs).2.2.length
 | 0,_,_,_=>Nat.le_refl _
 | f+1,es,a,rs=>by
  unfold spF
  cases(hdP (es.drop a)).2 !=0 with
  | true=>exact Nat.le_refl _
  | false=>
   rw[cF]
   cases(hdP (es.drop a)).1==0 with
   | true=>exact Nat.le_refl _
   | false=>
    rw[cF]
    cases(rdP (dg (es.drop a) 18) (sl (es.drop a) 19 ((hdP (es.drop a)).1.toNat - 19))).2 !=0 with
    | true=>exact Nat.le_refl _
    | false=>exact Nat.le_trans (by simp) (oK f _ _ _)
theorem Gr(es:List SV)(a n:Nat)(hn:n=es.length):sl es (0+a) (n - a)=es.drop a:=by
 subst hn;rw[Nat.zero_add,kR]
theorem Dp{es:List SV}{n:Nat}{a:Int}(hb:byl es)(hn:n=es.length)(hl:es.length<=1000000)(h0:0<=a)(h1:a<=n)(K:Int × Int->CTree):hdC es n a K=K (hdP (es.drop a.toNat)):=by
 unfold hdC
 rw[dT0 h0,dT0 h1,dT0 (Int.le_refl _),dec_iff.2 ⟨hb,by show 0+a.toNat+(n - a.toNat)<=_;omega,hl⟩]
 show K (hdP (sl es (0+a.toNat) (n - a.toNat)))=_
 rw[Gr es _ n hn]
theorem ze{es:List SV}{n:Nat}{a sz:Int}(hb:byl es)(hn:n=es.length)(hl:es.length<=1000000)(h0:0<=a)(h1:a<=n)(s1:19<=sz)(s2:sz<=((es.drop a.toNat).length:Int))(K:Mg × Int->CTree):Fa es n a sz K=K (rdP (dg (es.drop a.toNat) 18) (sl (es.drop a.toNat) 19 (sz.toNat - 19))):=by
 rw[List.length_drop]at s2
 have hd:dg es (0+a.toNat+18)=dg (es.drop a.toNat) 18:=by
  unfold dg
  rw[gD0,gD0,List.getElem?_drop,Nat.zero_add]
 obtain⟨r1,r2⟩:=(jt hb a.toNat).ok 18
 unfold Fa
 rw[show(n:Int).toNat - a.toNat=n - a.toNat from rfl,cR (by omega) (by omega),dT0 (show 0+a.toNat+18 < es.length by omega),dT0 (show(0:Int)<=19 by omega),dT0 s1,dT0 (show sz<=((n - a.toNat:Nat):Int)by omega),dec_iff.2 ⟨hb,by show 0+a.toNat+19+(sz.toNat - 19)<=_;omega,hl⟩,hd,show w64 (dg (es.drop a.toNat) 18)=dg (es.drop a.toNat) 18 from am (by omega) (by omega)]
 simp only[Bool.and_self,cT]
 have hs:sl es (0+a.toNat+19) (sz.toNat - 19)=sl (es.drop a.toNat) 19 (sz.toNat - 19):=by
  unfold sl
  rw[List.drop_drop,Nat.zero_add]
 show K (rdP _ (sl es (0+a.toNat+19) (sz.toNat - 19)))=_
 rw[hs]
theorem Dq{m:Nat}{rs:List SV}(hm:m=rs.length)(h:rs.length<=2000000)(K:CTree):gr9 m rs K=K:=by
 have hb:=of_decide_eq_true b52
 unfold gr9
 have:(rs.length+1) * Tryz.prog.types[52].bytes<=2000001 * 1000:=Nat.mul_le_mul (by omega) hb
 rw[dT0 hm,dT0 (show rs.length+1<=9223372036854775807 by omega),dT0 (show(rs.length+1) * Tryz.prog.types[52].bytes<=140737488355328 by omega)];rfl
theorem yL{n m:Nat}{es rs:List SV}{a:Int}{c5 c0:Chunk}(h5:br (sw 3 9) c5=c5)(h0:br (sw 3 9) c0=c0):∀ x,ad [(2,some (.cells 25 [.qs 9 25 0 m])),(3,none),(6,some (.cells 3 [.int .i64 a])),(5,some c5),(0,some c0),(9,some (.seq 52 rs))] (HS1 n es a m rs).get x=
  if x=9 then(ad [(5,some c5),(0,some c0)] (HS1 n es a m rs).get 3).map (br (sw 3 9))else if x=3 then none else(ad [(5,some c5),(0,some c0)] (HS1 n es a m rs).get x).map (br (sw 3 9))
 | 0=>by show some c0=some (br (sw 3 9) c0);rw[h0]
 | 1=>rfl | 2=>rfl | 3=>rfl | 4=>rfl
 | 5=>by show some c5=some (br (sw 3 9) c5);rw[h5]
 | 6=>rfl | 7=>rfl | 8=>rfl | 9=>rfl
 | x+10=>by
  have h1:∀ k,k < 10->¬ (x+10=k):=fun k hk=>by omega
  have h2:∀ k,k < 10->Nat.beq k (x+10)=false:=fun k hk=>b8 (by omega)
  simp only[ad,HS1,HpL.get,h1 9 (by omega),h1 6 (by omega),h1 5 (by omega),h1 3 (by omega),h1 2 (by omega),h1 0 (by omega),if_false,h2 0 (by omega),h2 1 (by omega),h2 2 (by omega),h2 3 (by omega),h2 4 (by omega),h2 5 (by omega),h2 6 (by omega),h2 7 (by omega),h2 8 (by omega),cF,Option.map_none]
theorem yM{n:Nat}{st:LS}:br (sw 3 9) (lr9 1 st n)=lr9 1 st n:=rfl
theorem C6{n:Nat}{st:LS}:9 ∉ aJ (lr9 1 st n):=by
 have:aJ (lr9 1 st n)=[1,2,4,5,6,1,7,8]:=rfl
 rw[this];decide
theorem C7{n m:Nat}{es rs:List SV}{a:Int}:∀ x c,(HS1 n es a m rs).get x=some c->9 ∉ aJ c:=by
 intro x c hx
 have:=aU _ _ _ hx
 simp only[HS1,List.mem_cons,pJ,List.not_mem_nil,or_false]at this
 rcases this with ⟨_,rfl⟩ | ⟨_,rfl⟩ | ⟨_,rfl⟩ | ⟨_,rfl⟩ | ⟨_,rfl⟩ | ⟨_,rfl⟩ | ⟨_,rfl⟩ | ⟨_,rfl⟩ | ⟨_,rfl⟩
 . exact C6
 all_goals simp[aJ,aF,ak]
theorem AA{n m:Nat}{es rs:List SV}{a:Int}:cg (HS1 n es a m rs) (.tup [.int .i64 1]) [] (.tup [.int .i64 1]) [(2,some (.cells 25 [.qs 9 25 0 m])),(3,none),(6,some (.cells 3 [.int .i64 a])),(9,some (.seq 52 rs))]:=by
 refine⟨3,9,by simp[HS1],by simp[ak,aF],fun x c hx=>C7 x c hx,rfl,fun x=> ?_⟩
 have:=yL (n:=n) (m:=m) (es:=es) (rs:=rs) (a:=a) (c5:=.cells 28 [.int .i64 0,.int .i64 0]) (c0:=lr9 1 .ready n) rfl yM x
 have e:∀ x,ad [(5,some (.cells 28 [.int .i64 0,.int .i64 0])),(0,some (lr9 1 .ready n))] (HS1 n es a m rs).get x=(HS1 n es a m rs).get x:=by
  intro x
  match x with
  | 0=>rfl | 1=>rfl | 2=>rfl | 3=>rfl | 4=>rfl | 5=>rfl
  | x+6=>simp only[ad,show ¬ (x+6=0)by omega,show ¬ (x+6=5)by omega,if_false]
 rw[e,e]at this
 show ad [(2,some (.cells 25 [.qs 9 25 0 m])),(3,none),(6,some (.cells 3 [.int .i64 a])),(9,some (.seq 52 rs))] (HS1 n es a m rs).get x=if x=9 then((HS1 n es a m rs).get 3).map (br (sw 3 9))else if x=3 then none else((HS1 n es a m rs).get x).map (br (sw 3 9))
 rw[<- this]
 match x with
 | 0=>rfl | 1=>rfl | 2=>rfl | 3=>rfl | 4=>rfl | 5=>rfl
 | x+6=>simp only[ad,show ¬ (x+6=0)by omega,show ¬ (x+6=5)by omega,if_false]
theorem vr      {n m:Nat}{es rs:List SV}{e a:Int}:cg      (HS1 n es a m rs) (.tup [.int .i64 1]) [(5,some (.cells 28 [.int .i64 e,.int .i64 a])),(4,some (.cells 22 [.nils])),(2,some (.cells 25 [.qs 3 25 0 m])),(0,some (lr9 1 (.done .ret) n))] (.tup [.int .i64 1])
  [(2,some (.cells 25 [.qs 9 25 0 m])),(3,none),(6,some (.cells 3 [.int .i64 a])),(5,some (.cells 28 [.int .i64 e,.int .i64 a])),(0,some (lr9 1 (.done .ret) n)),(9,some (.seq 52 rs))]:=by
 have e':∀ x,ad [(5,some (.cells 28 [.int .i64 e,.int .i64 a])),(4,some (.cells 22 [.nils])),(2,some (.cells 25 [.qs 3 25 0 m])),(0,some (lr9 1 (.done .ret) n))] (HS1 n es a m rs).get x=ad [(5,some (.cells 28 [.int .i64 e,.int .i64 a])),(0,some (lr9 1 (.done .ret) n))] (HS1 n es a m rs).get x:=by
  intro x
  match x with
  | 0=>rfl | 1=>rfl | 2=>rfl | 3=>rfl | 4=>rfl | 5=>rfl
  | x+6=>simp only[ad,show ¬ (x+6=0)by omega,show ¬ (x+6=2)by omega,show ¬ (x+6=4)by omega,show ¬ (x+6=5)by omega,if_false]
 refine⟨3,9,by simp[HS1],by simp[ak,aF],fun x c hx=> ?_,rfl,fun x=> ?_⟩
 . rw[e']at hx
   simp only[ad]at hx
   by_cases h0:x=0
   . rw[if_pos h0]at hx;cases hx;exact C6
   . rw[if_neg h0]at hx
     by_cases h5:x=5
     . rw[if_pos h5]at hx;cases hx;simp[aJ,aF,ak]
     . rw[if_neg h5]at hx;exact C7 x c hx
 . rw[e',e'];exact yL rfl yM x
theorem C8      {args:List SV}{H:HpL}{r:SV × List (Nat × Option Chunk)}(h:ae   (tY    args H)=some r):
  (∃ n es a,args=[.yl 0,.ptr 6 0,.ptr 7 0]/\H=HS0 n es a/\spO n es a []/\ae (sp0 n (spL es a.toNat []))=some r)\/
  ∃ n es a rs,args=[.yl 0,.ptr 7 0,.ptr 8 0]/\H=HS1 n es a rs.length rs/\spO n es a rs/\ae (sp1 n (spL es a.toNat rs))=some r:=by
 unfold tY at h
 split at h
 . rename_i b c
   split at h
   . rename_i n es a hp
     rw[aa]at h
     cases hc:dec (b=6/\c=7/\H=HS0 n es a/\spO n es a [])with
     | false=>rw[hc]at h;cases h
     | true=>
      rw[hc]at h
      obtain⟨rfl,rfl,rfl,h3⟩:=dec_iff.1 hc
      exact .inl ⟨n,es,a,rfl,rfl,h3,h⟩
   . rename_i n es a m rs hp
     rw[aa]at h
     cases hc:dec (b=7/\c=8/\H=HS1 n es a m rs/\m=rs.length/\spO n es a rs)with
     | false=>rw[hc]at h;cases h
     | true=>
      rw[hc]at h
      obtain⟨rfl,rfl,rfl,rfl,h3⟩:=dec_iff.1 hc
      exact .inr ⟨n,es,a,rs,rfl,rfl,h3,h⟩
   . cases h
 . cases h
theorem fI{H:HpL}{u v:List (Nat × Option Chunk)}(k:Nat)(hu:u.all (fun p=>decide (p.1 < k))=true)(hv:v.all (fun p=>decide (p.1 < k))=true)(h:∀ i,i < k->ad u H.get i=ad v H.get i):∀ x,ad u H.get x=ad v H.get x:=fun x=>by
 by_cases hx:x < k
 . exact h x hx
 . obtain⟨y,rfl⟩:∃ y,x=y+k:=⟨x - k,by omega⟩
   rw[pO u _ hu,pO v _ hv]
theorem AB       :aR     Tryz.prog e31:=cH          (κ:=κsp) (ι:=ιsp) (T:=aL   []) (sp:=true) (fuel:=300) (c:=c31) (μ:=IZ  ) ye    ax     aE       (show aM    (aL   []) c31=c31 by kernel_rfl) (by
 intro N args H v' ups' hbt hr
 rcases C8 hr with ⟨n,es,a,rfl,rfl,ho,hr⟩ | ⟨n,es,a,rs,rfl,rfl,ho,hr⟩
 . have hN:Nat.blt (n - a.toNat) (N+1)=true:=hbt
   rw[bL]at hN
   obtain⟨hb,rfl,hl,h0,h1,hz⟩:=ho
   have hrd:=I1 N es.length es a
   rw[Dp hb rfl hl h0 h1]at hrd
   rw[gg]at hr
   have hcs:=ei (es.drop a.toNat)
   have hdl:(es.drop a.toNat).length=es.length - a.toNat:=List.length_drop
   generalize hh:hdP (es.drop a.toNat)=q at *
   by_cases e2:q.2=0
   . rw[show(q.2==0)=true by simpa using e2,cT       ,cT       ]at hrd
     rw[show(q.2 !=0)=false by simpa using e2,cF]at hr
     by_cases e1:q.1=0
     . rw[show(q.1==0)=true by simpa using e1,cT]at hrd hr
       cases hr
       exact .inl ⟨_,congrArg ae hrd,fun x=>rfl⟩
     . rw[show(q.1==0)=false by simpa using e1,cF        ]at hrd hr
       obtain⟨s1,s2,s3⟩:=(hcs e2).resolve_left e1
       rw[ze hb rfl hl h0 h1 s1 s2]at hrd
       generalize rdP (dg (es.drop a.toNat) 18) (sl (es.drop a.toNat) 19 (q.1.toNat - 19))=w at *
       by_cases e3:w.2=0
       . rw[show(w.2 !=0)=false by simpa using e3,cF]at hrd hr
         have hw:w64 (a+q.1)=a+q.1:=am (by omega) (by omega)
         have ht:(a+q.1).toNat=a.toNat+q.1.toNat:=by omega
         unfold I0 at hrd
         rw[hw,ht,show Nat.blt (es.length - (a.toNat+q.1.toNat)) N=true by rw[bL];omega,cT,dec_iff.2 ⟨rfl,rfl,rfl,rfl,hb,rfl,hl,by omega,by omega,by simp;omega⟩,cT]at hrd
         rw[nA]at hr
         have hlen:1<=(spL es (a.toNat+q.1.toNat) [mgV w.1]).2.2.length:=oK _ _ _ [mgV w.1]
         generalize spL es (a.toNat+q.1.toNat) [mgV w.1]=r at *
         simp only[]at hrd
         unfold sp0 at hr
         rw[aa,dF0 (show ¬ r.2.2.length=0 by omega),cF,aa]at hr
         cases he:r.1==0 with
         | true=>
          rw[he]at hr hrd
          cases hr
          refine .inl ⟨_,congrArg ae hrd,fI 9 rfl rfl (fun i hi=> ?_)⟩
          match i with
          | 0=>rfl | 1=>rfl | 2=>rfl | 3=>rfl | 4=>rfl | 5=>rfl | 6=>rfl | 7=>rfl | 8=>rfl
          | i+9=>omega
         | false=>
          rw[he]at hr hrd
          cases hr
          refine .inl ⟨_,congrArg ae hrd,fI 9 rfl rfl (fun i hi=> ?_)⟩
          match i with
          | 0=>rfl | 1=>rfl | 2=>rfl | 3=>rfl | 4=>rfl | 5=>rfl | 6=>rfl | 7=>rfl | 8=>rfl
          | i+9=>omega
       . rw[show(w.2 !=0)=true by simpa using e3,cT]at hrd hr
         unfold tZ at hrd
         rw[show(w.2 !=0)=true by simpa using e3,cT]at hrd
         unfold sp0 at hr
         rw[aa,dT0 (show(([]:List SV).length=0)from rfl),cT,aa,show(w.2==0)=false by simpa using e3]at hr
         cases hr
         refine .inl ⟨_,congrArg ae hrd,fI 9 rfl rfl (fun i hi=> ?_)⟩
         have ha:((a.toNat:Nat):Int)=a:=by omega
         match i with
         | 0=>rfl | 1=>rfl | 2=>rfl | 3=>rfl
         | 4=>show some (Chunk.cells 28 [SV.int .i64 w.2,SV.int .i64 ((a.toNat:Nat):Int)])=_;rw[ha];rfl
         | 5=>rfl | 6=>rfl | 7=>rfl | 8=>rfl
         | i+9=>omega
   . rw[show(q.2==0)=false by simpa using e2,cF,cF]at hrd
     rw[show(q.2 !=0)=true by simpa using e2,cT]at hr hrd
     unfold tZ at hrd
     rw[show(q.2 !=0)=true by simpa using e2,cT]at hrd
     unfold sp0 at hr
     rw[aa,dT0 (show(([]:List SV).length=0)from rfl),cT,aa,show(q.2==0)=false by simpa using e2]at hr
     cases hr
     refine .inl ⟨_,congrArg ae hrd,fI 9 rfl rfl (fun i hi=> ?_)⟩
     have ha:((a.toNat:Nat):Int)=a:=by omega
     match i with
     | 0=>rfl | 1=>rfl | 2=>rfl | 3=>rfl
     | 4=>show some (Chunk.cells 28 [SV.int .i64 q.2,SV.int .i64 ((a.toNat:Nat):Int)])=_;rw[ha];rfl
     | 5=>rfl | 6=>rfl | 7=>rfl | 8=>rfl
     | i+9=>omega
 . have hN:Nat.blt (n - a.toNat) (N+1)=true:=hbt
   rw[bL]at hN
   obtain⟨hb,rfl,hl,h0,h1,hz⟩:=ho
   have hrd:=I3 N es.length rs.length es rs a
   have ha:((a.toNat:Nat):Int)=a:=by omega
   rw[Dp hb rfl hl h0 h1]at hrd
   rw[gg]at hr
   have hcs:=ei (es.drop a.toNat)
   have hdl:(es.drop a.toNat).length=es.length - a.toNat:=List.length_drop
   generalize hh:hdP (es.drop a.toNat)=q at *
   by_cases e2:q.2=0
   . rw[show(q.2==0)=true by simpa using e2,cT       ,cT       ]at hrd
     rw[show(q.2 !=0)=false by simpa using e2,cF]at hr
     by_cases e1:q.1=0
     . rw[show(q.1==0)=true by simpa using e1,cT]at hrd hr
       unfold sp1 at hr
       rw[aa,show((0:Int)==0)=true from rfl]at hr
       simp only[ha]at hr
       cases hr
       exact .inr ⟨_,_,congrArg ae hrd,AA⟩
     . rw[show(q.1==0)=false by simpa using e1,cF        ]at hrd hr
       obtain⟨s1,s2,s3⟩:=(hcs e2).resolve_left e1
       rw[ze hb rfl hl h0 h1 s1 s2]at hrd
       generalize rdP (dg (es.drop a.toNat) 18) (sl (es.drop a.toNat) 19 (q.1.toNat - 19))=w at *
       by_cases e3:w.2=0
       . rw[show(w.2 !=0)=false by simpa using e3,cF]at hrd hr
         have hw:w64 (a+q.1)=a+q.1:=am (by omega) (by omega)
         have ht:(a+q.1).toNat=a.toNat+q.1.toNat:=by omega
         unfold I2 at hrd
         rw[Dq rfl (by omega),hw,ht,show Nat.blt (es.length - (a.toNat+q.1.toNat)) N=true by rw[bL];omega,cT,dec_iff.2 ⟨rfl,rfl,rfl,by simp,hb,rfl,hl,by omega,by omega,by simp;omega⟩,cT]at hrd
         generalize spL es (a.toNat+q.1.toNat) (rs++[mgV w.1])=r at *
         simp only[]at hrd
         unfold sp1 at hr
         rw[aa]at hr
         cases he:r.1==0 with
         | true=>
          rw[he]at hr hrd
          cases hr
          refine .inl ⟨_,congrArg ae hrd,fI 10 rfl rfl (fun i hi=> ?_)⟩
          match i with
          | 0=>rfl | 1=>rfl | 2=>rfl | 3=>rfl | 4=>rfl | 5=>rfl | 6=>rfl | 7=>rfl | 8=>rfl | 9=>rfl
          | i+10=>omega
         | false=>
          rw[he]at hr hrd
          cases hr
          refine .inl ⟨_,congrArg ae hrd,fI 10 rfl rfl (fun i hi=> ?_)⟩
          match i with
          | 0=>rfl | 1=>rfl | 2=>rfl | 3=>rfl | 4=>rfl | 5=>rfl | 6=>rfl | 7=>rfl | 8=>rfl | 9=>rfl
          | i+10=>omega
       . rw[show(w.2 !=0)=true by simpa using e3,cT]at hrd hr
         unfold tZ at hrd
         rw[show(w.2 !=0)=true by simpa using e3,cT]at hrd
         unfold sp1 at hr
         rw[aa,show(w.2==0)=false by simpa using e3]at hr
         simp only[ha]at hr
         cases hr
         exact .inr ⟨_,_,congrArg ae hrd,vr⟩
   . rw[show(q.2==0)=false by simpa using e2,cF,cF]at hrd
     rw[show(q.2 !=0)=true by simpa using e2,cT]at hr hrd
     unfold tZ at hrd
     rw[show(q.2 !=0)=true by simpa using e2,cT]at hrd
     unfold sp1 at hr
     rw[aa,show(q.2==0)=false by simpa using e2]at hr
     simp only[ha]at hr
     cases hr
     exact .inr ⟨_,_,congrArg ae hrd,vr⟩)
end Go.Proofs.YtnlmhpancboddaaGreat
