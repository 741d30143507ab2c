/- Messages: Split of what is known by content. -/
import Derived.Test.YtnlmhpancboddaaGreatPart22
import Derived.Test.YtnlmhpancboddaaGreatPart20
import Derived.Test.YtnlmhpancboddaaGreatPart19
import Derived.Test.YtnlmhpancboddaaGreatMachine5
set_option linter.unusedVariables false
set_option linter.unusedSimpArgs false
namespace Go.Proofs.YtnlmhpancboddaaGreat
open Go.Am
set_option maxRecDepth 100000
noncomputable abbrev Tpp:cQ:=aL [("m",Aw)]
noncomputable def vP:ag:=oZ Tryz.prog κsp ιsp Tpp Msp true 300 Tryz.f9 b9
theorem AP:Known Tryz.prog 9 vP:=
 ⟨⟨Tryz.f9,Tryz.func9,bc ap Tryz.func9,rfl⟩,i9 ye ax (bf AK aE) (mS Tryz.func31 (show Tryz.f31.body=some (aM Tpp m31)by kernel_rfl) o4) Tryz.func9 (show Tryz.f9.body=some (aM Tpp b9)by kernel_rfl)⟩
noncomputable def tj(es:List SV)(e:Int)(K:Nat->List SV->CTree):CTree:=slI es e es.length fun q=>(bif ri (([]:List SV).length+q.length)then K (([]:List SV).length+q.length) ([]++q)else .fail)
noncomputable def zl(es:List SV)(r:Int × Nat × List SV):CTree:=
 bif decide (r.2.2.length=0)then(bif r.1==0 then tj es 0 fun k xs=>.ret (.tup [.nils,.qs 0 1 0 k,fl0]) [(0,some (.seq 5 xs))]else .ret (.tup [.nils,.nils,.agg [.int .i64 r.1,.int .i64 r.2.1]]) [])
 else bif r.1==0 then tj es r.2.1 fun k xs=>.ret (.tup [.qs 0 25 0 r.2.2.length,.qs 1 1 0 k,fl0]) [(0,some (.seq 52 r.2.2)),(1,some (.seq 5 xs))]else .ret (.tup [.qs 0 25 0 r.2.2.length,.nils,.agg [.int .i64 r.1,.int .i64 r.2.1]]) [(0,some (.seq 52 r.2.2))]
theorem DA(es:List SV):vP [.psl 5 es] []=bif dec (5=5/\6=6/\HP0 es 0=HP0 es 0/\td es 0 [])then zl es (spL es (0:Int).toNat [])else .fail:=by kernel_rfl
theorem sc{es:List SV}{a:Nat}{e:Int}(he:e=a)(hl:es.length<=1000000)(ha:a<=es.length)(K:Nat->List SV->CTree):tj es e K=K (es.drop a).length (es.drop a):=by
 subst he
 unfold tj
 rw[iy (a:=(a:Int)) (b:=(es.length:Int)) (i:=a) (j:=es.length) rfl rfl ha (Nat.le_refl _),kR,List.length_nil,Nat.zero_add,ju (by rw[List.length_drop];omega),cT,nA]
noncomputable def tp(es:List SV)(r:Int × Nat × List SV):CTree:=
 .ite (r.1==0) (.ret (.tup [.psl 52 r.2.2,.qs 0 1 0 (es.drop r.2.1).length,fl0]) [(0,some (.seq 5 (es.drop r.2.1)))]) (.ret (.tup [.psl 52 r.2.2,.nils,.agg [.int .i64 r.1,.int .i64 r.2.1]]) [])
noncomputable def mg(es:List SV)(r:Int × Nat × List SV):CTree:=
 .ite (r.1==0) (.ite (decide (r.2.2.length=0)) (.ret (.tup [.psl 52 r.2.2,.qs 0 1 0 (es.drop r.2.1).length,fl0]) [(0,some (.seq 5 (es.drop r.2.1)))]) (.ret (.tup [.psl 52 r.2.2,.qs 1 1 0 (es.drop r.2.1).length,fl0]) [(1,some (.seq 5 (es.drop r.2.1)))]))
  (.ret (.tup [.psl 52 r.2.2,.nils,.agg [.int .i64 r.1,.int .i64 r.2.1]]) [])
noncomputable def nk:ag:=fun args H=>match args,H with
 | [.psl 5 es],[]=>.ite (dec (byl es/\es.length<=1000000)) (mg es (spL es 0 [])) .fail
 | _,_=>.fail
theorem AQ       :Known Tryz.prog 9 nk       :=bw         AP        (by
 intro args H v' ups' h
 unfold nk at h
 split at h
 . rename_i es
   rw[aa]at h
   cases hc:dec (byl es/\es.length<=1000000)with
   | false=>rw[hc]at h;cases h
   | true=>
    rw[hc,cT]at h
    obtain⟨hb,hl⟩:=dec_iff.1 hc
    have ht:=DA es
    rw[dec_iff.2 ⟨rfl,rfl,rfl,hb,hl,by omega,by omega,by simp;omega⟩,cT,show(0:Int).toNat=0 from rfl]at ht
    obtain⟨a1,a2,a3⟩:=wW (es.length - 0) es 0 [] (Nat.zero_le _)
    have a3':(spL es 0 []).2.2.length=0->(spL es 0 []).2.1=0:=a3
    have a2':(spL es 0 []).2.1<=es.length:=a2
    generalize spL es 0 []=r at *
    unfold zl at ht
    unfold mg at h
    rw[aa]at h
    by_cases hk:r.2.2.length=0
    . rw[dT0 hk,cT]at ht
      have hz:=a3' hk
      have hr:r.2.2=[]:=List.length_eq_zero_iff.1 hk
      rw[hr]at h
      cases he:r.1==0 with
      | true=>
       rw[he,cT,sc (e:=0) (a:=0) (by decide) hl (Nat.zero_le _)]at ht
       rw[he,cT,aa,dT0 (show([]:List SV).length=0 from rfl),cT,hz]at h
       cases h
       exact⟨_,_,congrArg ae ht,.inr ⟨.tup (.cons .nils .rfl'),fun x c' hx=>⟨c',hx,.rfl'⟩⟩⟩
      | false=>
       rw[he,cF]at ht
       rw[he,cF]at h
       cases h
       exact⟨_,_,congrArg ae ht,.inr ⟨.tup (.cons .nils .rfl'),fun x c' hx=>⟨c',hx,.rfl'⟩⟩⟩
    . rw[dF0             hk,cF        ]at ht
      cases he:r.1==0 with
      | true=>
       rw[he,cT,sc (a:=r.2.1) rfl hl a2']at ht
       rw[he,cT,aa,dF0 hk,cF]at h
       cases h
       refine⟨_,_,congrArg ae ht,.inl ⟨0,52,r.2.2,rfl,.tup (.cons (.qs rfl) .rfl'),fun x c' hx=> ?_⟩⟩
       simp only[ad]at hx
       by_cases h2:x=1
       . subst h2;exact⟨by decide,c',hx,.rfl'⟩
       . rw[if_neg h2]at hx
         simp[HpL.get]at hx
      | false=>
       rw[he,cF]at ht
       rw[he,cF]at h
       cases h
       refine⟨_,_,congrArg ae ht,.inl ⟨0,52,r.2.2,rfl,.tup (.cons (.qs rfl) .rfl'),fun x c' hx=> ?_⟩⟩
       simp[ad,HpL.get]at hx
 . cases h)
noncomputable def vQ:ag:=fun args H=>match args,H with
 | [.psl 5 es],[]=>.ite (dec (byl es/\es.length<=1000000)) (tp es (spL es 0 [])) .fail
 | _,_=>.fail
theorem xC        {xs rs:List SV}{k:Nat}:cg      [] (.tup [.psl 52 rs,.qs 1 1 0 k,fl0]) [(1,some (.seq 5 xs))] (.tup [.psl 52 rs,.qs 0 1 0 k,fl0]) [(0,some (.seq 5 xs))]:=by
 refine⟨1,0,by simp,by simp[ak,aF,fl0],fun x c hx=> ?_,rfl,fun x=> ?_⟩
 . simp only[ad]at hx
   by_cases h2:x=1
   . rw[if_pos h2]at hx;cases hx;simp[aJ]
   . rw[if_neg h2]at hx
     simp[HpL.get]at hx
 . match x with
   | 0=>rfl | 1=>rfl
   | x+2=>
    simp only[ad,HpL.get,show ¬ (x+2=1)by omega,show ¬ (x+2=0)by omega,if_false,Option.map_none]
theorem DB      :Known Tryz.prog 9 vQ      :=dq        AQ        (by
 intro args H v' ups' h
 unfold vQ at h
 split at h
 . rename_i es
   rw[aa]at h
   cases hc:dec (byl es/\es.length<=1000000)with
   | false=>rw[hc]at h;cases h
   | true=>
    rw[hc,cT]at h
    have run:∀ t,ae (mg es (spL es 0 []))=t->ae (nk [.psl 5 es] [])=t:=fun t ht=>by
     show ae (.ite (dec (byl es/\es.length<=1000000)) (mg es (spL es 0 [])) .fail)=_
     rw[aa,hc];exact ht
    generalize spL es 0 []=r at *
    unfold tp at h
    unfold mg at run
    rw[aa]at h run
    cases he:r.1==0 with
    | true=>
     rw[he,cT]at h run
     rw[aa]at run
     by_cases hk:r.2.2.length=0
     . rw[dT0 hk]at run
       exact .inl ⟨_,run _ h,fun x=>rfl⟩
     . rw[dF0 hk]at run
       cases h
       exact .inr ⟨_,_,run _ rfl,xC⟩
    | false=>
     rw[he,cF]at h run
     exact .inl ⟨_,run _ h,fun x=>rfl⟩
 . cases h)
noncomputable def vR:ag:=fun args H=>match args,H with
 | [.qs 0 1 0 n],[(0,.seq 5 es)]=>.ite (dec (byl es/\n=es.length/\es.length<=1000000)) (pm es (spL es 0 [])) .fail
 | [.psl 5 es],[]=>.ite (dec (byl es/\es.length<=1000000)) (tp es (spL es 0 [])) .fail
 | _,_=>.fail
theorem split2_k:Known Tryz.prog 9 vR:=jf Fo DB (by
 intro args H v ups h
 unfold vR at h
 split at h
 . exact .inl h
 . exact .inr h
 . cases h)
def Fx(x n:Int):Bool:=decide (x.tmod n < 0)
def pck(x n:Int):Int:=bif Fx x n then w64 (x.tmod n+n)else x.tmod n
theorem Jg(x n:Int):opn (tbl []) Tryz.f12 [.int .i64 x,.int .i64 n] []=bif n==0 then .fail else bif Fx x n then .ret (.int .i64 (w64 (x.tmod n+n))) []else .ret (.int .i64 (x.tmod n)) []:=by kernel_rfl
def wZ:ag:=fun args H=>match args,H with
 | [.int .i64 x,.int .i64 n],[]=>.ite (decide (0 < n)) (.ret (.int .i64 (pck x n)) []) .fail
 | _,_=>.fail
theorem Jh:Known Tryz.prog 12 wZ:=(aj ok0 Tryz.func12 rfl).weak (by
 intro args H v ups h
 unfold wZ at h
 split at h
 . rename_i x n
   rw[aa]at h
   cases hc:decide (0 < n)with
   | false=>rw[hc]at h;cases h
   | true=>
    rw[hc]at h
    have h1:=of_decide_eq_true hc
    rw[Jg,show(n==0)=false by rw[beq_eq_false_iff_ne];omega,cF]
    unfold pck at h
    generalize Fx x n=q at *
    cases q <;> exact h
 . cases h)
theorem Fy{x n:Int}(h0:0 < n)(h1:n<=1000000):0<=pck x n/\pck x n < n:=by
 have h2:x.tmod n < n:=Int.tmod_lt_of_pos x h0
 have h3: -n < x.tmod n:=by
  have:=Int.tmod_lt_of_pos (-x) h0
  rw[Int.neg_tmod]at this
  omega
 unfold pck Fx
 by_cases h:x.tmod n < 0
 . rw[dT0 h,cT,show w64 (x.tmod n+n)=x.tmod n+n from am (by omega) (by omega)];omega
 . rw[dF0 h,cF];omega
noncomputable def Hy:Code:=Tryz.f4.body.getD .skip
noncomputable def c4:Code:=(bx 10 Hy).getD .skip
noncomputable def NX(r:Int × Nat × List SV):Int:=bif r.1==0 then 0 else r.2.1
def L9(b sz ms:List SV)(fe fa:Int)(gs hs:List SV)(at_ dn i:Int):Prop:=
 byl b/\b.length<=9000/\sz.length<=40/\ms=(spL b 0 []).2.2/\fe=(spL b 0 []).1/\fa=NX (spL b 0 [])/\0<=i/\i<=(sz.length:Int)+1/\0<=at_/\at_<=b.length/\0<=dn/\
 spL (b.take at_.toNat) 0 []=(0,dn.toNat,gs)/\hs=(b.take at_.toNat).drop dn.toNat/\(i=(sz.length:Int)+1->at_=b.length)
noncomputable def NY:ag:=fun args H=>match args,H with
 | [.psl 5 b,.psl 3 sz,.psl 52 ms,.ptr 0 0,.qs 1 25 0 g,.qs 2 1 0 h,.int .i64 at_,.int .i64 dn,.int .i64 i],[(0,.cells 28 [.int .i64 fe,.int .i64 fa]),(1,.seq 52 gs),(2,.seq 5 hs)]=>
  .ite (dec (g=gs.length/\h=hs.length/\L9 b sz ms fe fa gs hs at_ dn i)) (.ite ((spL b 0 []).1==0)
  (.ret (.tup [.int .i64 2,.junk,.psl 52 ms,.ptr 0 0,.qs 3 25 0 ms.length,.qs 4 1 0 (b.drop (spL b 0 []).2.1).length]) [(1,none),(2,none),(3,some (.seq 52 ms)),(4,some (.seq 5 (b.drop (spL b 0 []).2.1)))])
  (.ret (.tup [.int .i64 1,.bool true,.junk,.junk,.junk,.junk]) [(0,none),(1,none),(2,none)])) .fail
 | _,_=>.fail
noncomputable def e4:LEnt:={ins:=[0,1,5,7,8,9,10,11,12],outs:=[4,5,7,8,9],keep:=[6],size:=141,code:=c4,s:=NY}
noncomputable def I8(k:Nat):Bool:=decide (k<=9223372036854775807)&&decide (k * Tryz.prog.types[52].bytes<=140737488355328)
noncomputable def elC(l m:Nat)(es:List SV)(K:List SV->CTree):CTree:=bif decide (l=0)&&decide (m=es.length)then K es else bif decide (l+m<=es.length)then K ((es.drop l).take m)else .fail
def Ff(xs:List SV):List UInt8:=xs.map Go.Am.byteOf
theorem Kh{k:Nat}(h:k<=1000000):I8 k=true:=by
 have h1:=of_decide_eq_true b52
 unfold I8
 have h2:k * Tryz.prog.types[52].bytes<=1000000 * 1000:=Nat.mul_le_mul h h1
 rw[dT0 (by omega),dT0 (by omega)];rfl
theorem yP(es:List SV)(K:List SV->CTree):elC 0 es.length es K=K es:=by
 unfold elC
 rw[dT0 rfl,dT0 rfl];rfl
theorem Dc{l m:Nat}{es:List SV}(h:l+m<=es.length)(K:List SV->CTree):elC l m es K=K ((es.drop l).take m):=by
 unfold elC
 by_cases h0:l=0/\m=es.length
 . obtain⟨rfl,rfl⟩:=h0
   rw[dT0 rfl,dT0 rfl,List.drop_zero,List.take_length];rfl
 . rw[dT0 h]
   by_cases h1:l=0
   . rw[dF0 (show ¬ m=es.length from fun h2=>h0 ⟨h1,h2⟩),Bool.and_false];rfl
   . rw[dF0 h1,Bool.false_and];rfl
theorem ffs_len:ffs.length=16:=rfl
theorem Jf(K:Nat->List SV->CTree):oWF 16 ffs K=K ffs.length ffs:=by
 unfold oWF;rw[dT0 ffs_len.symm,cT,dT0 (by rw[ffs_len];decide),cT]
/- The loop. -/
noncomputable def L7:Code:=Tryz.f5.body.getD .skip
noncomputable def c5:Code:=(bx 11 L7).getD .skip
def adH(c:SV)(v:List SV):List SV:=[.int .u8 (w8 (w64 (100+pck (asI c) 100))),.int .u8 (w8 (v.length:Int))]
def adF:Nat->List SV->List SV->Nat->List SV->Option (List SV)
 | 0,_,_,_,hs=>some hs
 | f+1,cs,bs,i,hs=>bif decide (((asL (bs.getD i .junk)).length:Int) > 20)then none else adF f cs bs (i+1) (hs++adH (cs.getD i .junk) (asL (bs.getD i .junk))++asL (bs.getD i .junk))
def NV(cs bs:List SV)(i:Int)(hs:List SV):Prop:=cs.length<=6/\cs.length<=bs.length/\0<=i/\i<=cs.length/\(hs.length:Int)<=22 * i
noncomputable def NW:ag:=fun args H=>match args,H with
 | [.psl 3 cs,.psl 22 bs,.qs 0 1 0 n,.int .i64 i],[(0,.seq 5 hs)]=>.ite (dec (n=hs.length/\NV cs bs i hs)) (.ite (adF (cs.length - i.toNat) cs bs i.toNat hs).isSome
   (.ret (.tup [.int .i64 2,.junk,.qs 1 1 0 ((adF (cs.length - i.toNat) cs bs i.toNat hs).getD []).length]) [(0,none),(1,some (.seq 5 ((adF (cs.length - i.toNat) cs bs i.toNat hs).getD [])))])
   (.ret (.tup [.int .i64 1,.bool true,.junk]) [(0,none)])) .fail
 | _,_=>.fail
noncomputable def e5:LEnt:={ins:=[1,2,11,12],outs:=[8,11],keep:=[3,4,9],size:=162,code:=c5,s:=NW}
theorem CoL.junk(P:Program):∀ (vs:List SV),CoL P vs (vs.map fun _=>.junk)
 | []=>.nil
 | _ :: vs=>.cons (fun _ _ _ _ _ _=>.junk) (CoL.junk P vs)
end Go.Proofs.YtnlmhpancboddaaGreat
namespace Go.Proofs.YtnlmhpancboddaaGreat
open Go.Am
set_option maxRecDepth 100000
end Go.Proofs.YtnlmhpancboddaaGreat
namespace Go.Proofs.YtnlmhpancboddaaGreat
open Go.Am
set_option maxRecDepth 100000
noncomputable abbrev m4:Code:=bF [(10, "m")] Hy
def rtB(b:Bool):CTree:=.ret (.bool b) []
noncomputable def apQ(n:Nat)(es:List SV)(l m:Nat)(src:List SV)(K:Nat->List SV->CTree):CTree:=bif decide (n=es.length)then elC l m src fun news=>bif ri (es.length+news.length)then K (es.length+news.length) (es++news)else .fail else .fail
theorem ed{F:Int->List SV->Cs->Bool × Cs}{c n:Int}{v rest:List SV}{s:Cs}(hn:n=v.length):
  eI F (.int .u8 c :: .int .u8 n :: (v++rest)) s=bif(F c v s).1 then eI F rest (F c v s).2 else(false,(F c v s).2):=by
 subst hn
 rw[nh (by simp)]
 have e0:dg (.int .u8 c :: .int .u8 (v.length:Int) :: (v++rest)) 0=c:=rfl
 have e1:dg (.int .u8 c :: .int .u8 (v.length:Int) :: (v++rest)) 1=v.length:=rfl
 have e2:sl (.int .u8 c :: .int .u8 (v.length:Int) :: (v++rest)) 2 (v.length:Int).toNat=v:=by
  show((v++rest).take v.length)=v
  rw[List.take_left]
 have e3:(SV.int .u8 c :: .int .u8 (v.length:Int) :: (v++rest)).drop (2+(v.length:Int).toNat)=rest:=by
  rw[Nat.add_comm]
  show((v++rest).drop v.length)=rest
  rw[List.drop_left]
 rw[e0,e1,e2,e3,dF0 (by simp only[List.length_cons];omega),dF0 (by simp only[List.length_cons,lA0];omega),cF,cF]
/- The capabilities that an OPEN has. -/
theorem JK:((List.range 4096).all fun n=>fw .i64 (n:Nat) 4095==(n:Int)&&(fw .i64 (n:Nat) 32768==0&&(fw .i64 ((n:Nat)+32768) 4095==(n:Int)&&fw .i64 ((n:Nat)+32768) 32768 !=0)))=true:=by kernel_rfl
theorem F6{w:Cs}(h0:0<=w.rst)(h1:w.rst < 4096):fw .i64 (w.rst+(bif w.rsd then 32768 else 0)) 4095=w.rst/\(fw .i64 (w.rst+(bif w.rsd then 32768 else 0)) 32768 !=0)=w.rsd:=by
 have:=List.all_eq_true.1 JK w.rst.toNat (List.mem_range.2 (by omega))
 rw[show((w.rst.toNat:Nat):Int)=w.rst by omega]at this
 simp only[bA,beq_iff_eq]at this
 obtain⟨b1,b2,b3,b4⟩:=this
 cases w.rsd with
 | true=>exact⟨b3,b4⟩
 | false=>rw[cF,Int.add_zero];exact⟨b1,by rw[b2];rfl⟩
def rsS(w s:Cs):Cs:=bif(bif w.rst !=0 then true else w.rsd)then {s with rs:=true,rst:=w.rst,rsd:=w.rsd}else s
theorem HJ{s:Cs}:eo 1 (be 1638470 4) s=(true,{s with ev:=true}):=by
 unfold eo
 rw[show((1:Int)==1)=true from rfl,cT,ah,dT0 rfl,cT,show(tkN (be 1638470 4) 0 4==1638470)=true by kernel_rfl]
 cases s.ev <;> rfl
theorem CQ{s:Cs}{n:Int}(h:s.nu=false)(h0:0<=n)(h1:n < 4294967296):eo 65 (be n 4) s=(true,{s with nu:=true,asn:=n}):=by
 unfold eo
 rw[show((65:Int)==1)=false from rfl,cF,show((65:Int)==65)=true from rfl,cT,ah,dT0 rfl,cT,h,show(!false)=true from rfl,cT,show tkN (be n 4) 0 4=n from aW (pre:=[]) (post:=[]) (by simp) rfl h0 (by omega)]
theorem JL{s w:Cs}{n:Int}{q:List SV}(h:s.rs=false)(hn:n=w.rst+(bif w.rsd then 32768 else 0))(h0:0<=w.rst)(h1:w.rst < 4096):eo 64 (be n 2++q) s=(true,{s with rs:=true,rst:=w.rst,rsd:=w.rsd}):=by
 obtain⟨b1,b2⟩:=F6 h0 h1
 have n0:0<=n/\n < 65536:=by cases hr:w.rsd <;> rw[hr]at hn <;> simp at hn <;> omega
 unfold eo
 rw[show((64:Int)==1)=false from rfl,cF,show((64:Int)==65)=false from rfl,cF,cF,cF,show((64:Int)==64)=true from rfl,cT,h,show(!false)=true from rfl,cT,dT0 (by rw[lA0,ah];omega),cT,show tkN (be n 2++q) 0 2=n from aW (pre:=[]) (post:=q) (by simp) rfl n0.1 (by omega),hn,b1,b2]
theorem As{w s:Cs}(hw:Ck w)(h1:s.nu=false)(h2:s.rs=false):eI eo (bY w) s=(true,{rsS w {s with ev:=true}with nu:=true,asn:=w.asn}):=by
 obtain⟨g0,g1,g2,g3,g4,g5,g6,g7⟩:=hw
 have hn:=Hi g2 g3
 unfold bY rsS
 cases(bif w.rst !=0 then true else w.rsd)with
 | false=>
  rw[cF,cF]
  have e:be 260 2++be 1638470 4++be 512 2++be 16644 2++be w.asn 4= .int .u8 1 :: .int .u8 4 :: (be 1638470 4++(.int .u8 2 :: .int .u8 0 :: ([]++(.int .u8 65 :: .int .u8 4 :: (be w.asn 4++[]))))):=by kernel_rfl
  rw[e,ed (n:=4) (v:=be 1638470 4) rfl,HJ,cT,ed (n:=0) (v:=[]) rfl]
  simp only[]
  rw[show ∀ s:Cs,eo 2 [] s=(true,s)from fun s=>rfl,cT,ed (n:=4) (v:=be w.asn 4) rfl,CQ (by first | exact h1 | simpa using h1) g0 g1,cT,js rfl]
 | true=>
  rw[cT,cT]
  generalize rsN w=n at *
  have e:be 260 2++be 1638470 4++be 512 2++be 16390 2++be n 2++be 1656448 4++be 16644 2++be w.asn 4= .int .u8 1 :: .int .u8 4 :: (be 1638470 4++(.int .u8 2 :: .int .u8 0 :: ([]++(.int .u8 64 :: .int .u8 6 :: ((be n 2++be 1656448 4)++(.int .u8 65 :: .int .u8 4 :: (be w.asn 4++[]))))))):=by kernel_rfl
  rw[e,ed (n:=4) (v:=be 1638470 4) rfl,HJ,cT,ed (n:=0) (v:=[]) rfl]
  simp only[]
  rw[show ∀ s:Cs,eo 2 [] s=(true,s)from fun s=>rfl,cT,ed (n:=6) (v:=be n 2++be 1656448 4) rfl,JL (w:=w) (by first | exact h2 | simpa using h2) hn g2 g3,cT,ed (n:=4) (v:=be w.asn 4) rfl,CQ (by first | exact h1 | simpa using h1) g0 g1,cT,js rfl]
def mh(w:Cs)(P:List SV):List SV:=be 4 1++(be (asV w) 2++(be w.hold 2++(be w.id 4++(.int .u8 (P.length:Int) :: P))))
def opX(w:Cs)(L:Int)(P:List SV):List SV:=ffs++(.int .u8 ((19+((pC w).length:Int)) / 256 ^ 1 % 256) :: .int .u8 L :: (be 1 1++mh w P))
theorem vV(w:Cs)(P:List SV):(mh w P).length=10+P.length:=by unfold mh;simp only[lA0,List.length_cons,ah];omega
def opT(w:Cs):Cs:={rsS w ({cs0 with hold:=w.hold,id:=w.id,ev:=true})with nu:=true,asn:=w.asn}
theorem HX{w:Cs}:(opT w).ev=true/\(opT w).nu=true/\(opT w).asn=w.asn/\(opT w).hold=w.hold/\(opT w).id=w.id/\(opT w).rst=w.rst/\(opT w).rsd=w.rsd:=by
 unfold opT rsS
 cases h:(bif w.rst !=0 then true else w.rsd)with
 | true=>exact⟨rfl,rfl,rfl,rfl,rfl,rfl,rfl⟩
 | false=>
  cases h1:w.rst !=0 with
  | true=>rw[h1]at h;cases h
  | false=>
   rw[h1,cF]at h
   have h2:w.rst=0:=by simpa using h1
   exact⟨rfl,rfl,rfl,rfl,rfl,h2.symm,h.symm⟩
theorem Ks{w:Cs}(hw:Ck w){P:List SV}(hP:eI gZ P {cs0 with hold:=w.hold,id:=w.id}=(true,opT w)):roP (mh w P)=(opT w,0):=by
 obtain⟨g0,g1,g2,g3,g4,g5,g6,g7⟩:=hw
 have t3:tkN (mh w P) 3 2=w.hold:=aW (pre:=be 4 1++be (asV w) 2) (post:=be w.id 4++(.int .u8 (P.length:Int) :: P)) (by unfold mh;simp) (by rw[lA0,ah,ah]) (by omega) (by omega)
 have t5:tkN (mh w P) 5 4=w.id:=aW (pre:=be 4 1++(be (asV w) 2++be w.hold 2)) (post:=.int .u8 (P.length:Int) :: P) (by unfold mh;simp) (by simp only[lA0,ah]) g6 (by omega)
 have d0:dg (mh w P) 0=4:=by kernel_rfl
 have d9:dg (mh w P) 9=P.length:=by kernel_rfl
 have dd:(mh w P).drop 10=P:=by kernel_rfl
 obtain⟨e1,e2,_⟩:=HX (w:=w)
 unfold roP
 rw[dF0 (by rw[vV];omega),cF,d0,show((4:Int)!=4)=false from rfl,cF,t3,t5,d9,vV,dd,hP,show((P.length:Int)!=((10+P.length:Nat):Int) - 10)=false by rw[bne_eq_false_iff_eq];omega]
 have hh:(bif w.hold !=0 then decide (w.hold < 3)else false)=false:=by
  by_cases hz:w.hold=0
  . rw[hz];rfl
  . rw[dF0 (show ¬ w.hold < 3 by omega)];cases w.hold !=0 <;> rfl
 rw[hh]
 simp[e1,e2]
theorem Kt{w:Cs}(hw:Ck w){P:List SV}(hP:eI gZ P {cs0 with hold:=w.hold,id:=w.id}=(true,opT w)):rdP 1 (mh w P)=(⟨1,opT w,0,0,dI0⟩,0):=by
 unfold rdP
 rw[Ks hw hP]
 rfl
/- The parameters. -/
theorem GA{w:Cs}(hw:Ck w){xs:List SV}(hx:∀ rest s,eI eo (xs++rest) s=eI eo rest s){n:Int}(hn:n=((xs++bY w).length:Nat)):
  eI gZ (.int .u8 2 :: .int .u8 n :: (xs++bY w)) {cs0 with hold:=w.hold,id:=w.id}=(true,opT w):=by
 have e:eI eo (xs++bY w) {cs0 with hold:=w.hold,id:=w.id}=(true,opT w):=by
  rw[hx];exact As hw rfl rfl
 rw[show xs++bY w=(xs++bY w)++[]by simp,ed (v:=xs++bY w) (by simpa using hn)]
 have e2:∀ s,gZ 2 (xs++bY w) s=eI eo (xs++bY w) s:=fun s=>rfl
 rw[e2,e,cT,js rfl]
end Go.Proofs.YtnlmhpancboddaaGreat
namespace Go.Proofs.YtnlmhpancboddaaGreat
open Go.Am Go.ChangeShapes Go.WideShapes Go.ChangeAt Go.RowKit Go.Joins
set_option maxRecDepth 100000
theorem KT{es src t:List SV}{l m:Nat}(h:l+m<=src.length)(ht:(src.drop l).take m=t)(hl:es.length+t.length<=1000000)(K:Nat->List SV->CTree):apQ es.length es l m src K=K (es++t).length (es++t):=by
 unfold apQ;rw[dT0 rfl,cT,Dc h,ht,ju hl,cT,lA0]
theorem Ei(w:Cs):byl (bY w):=by
 unfold bY
 refine((byl.app ?_ (byl.be _ _)).app (byl.be _ _))
 cases(bif w.rst !=0 then true else w.rsd)with
 | true=>exact(((((byl.be _ _).app (byl.be _ _)).app (byl.be _ _)).app (byl.be _ _)).app (byl.be _ _)).app (byl.be _ _)
 | false=>exact((byl.be _ _).app (byl.be _ _)).app (byl.be _ _)
end Go.Proofs.YtnlmhpancboddaaGreat
namespace Go.Proofs.YtnlmhpancboddaaGreat
open Go.Am
set_option maxRecDepth 100000
def atG(d:Ds):At:=⟨d.ori,d.path,d.nx,d.hm,d.med,d.hp,d.prf,d.ho,d.orr,d.cl,d.cm,d.tk,d.tl,d.tr,d.tg⟩
def osZ(s:Cs):Bool:=s.asn==0&&(s.hold==0&&(s.id==0&&(s.rst==0&&s.rsd==false)))
def il(o:Bool)(code sub:Int)(z:Bool)(r u:Nat):Bool:=bif bif bif bif bif o then code==0 else false then sub==0 else false then z else false then(r:Int)==0 else false then(u:Int)==0 else false
def frn(m:Mg):Bool:=bif m.k==1 then !il true m.code m.sub (cC (atG m.d)) m.d.rch.length m.d.unr.length else bif m.k==3 then !il (osZ m.s) 0 0 (cC (atG m.d)) m.d.rch.length m.d.unr.length else
 bif m.k==2 then !il (osZ m.s) m.code m.sub true 0 0 else !il (osZ m.s) m.code m.sub (cC (atG m.d)) m.d.rch.length m.d.unr.length
def Nh(m:Mg)(K:Bool->CTree):CTree:=bif m.k==1 then K (!il true m.code m.sub (cC (atG m.d)) m.d.rch.length m.d.unr.length)else bif m.k==3 then K (!il (osZ m.s) 0 0 (cC (atG m.d)) m.d.rch.length m.d.unr.length)else
 bif m.k==2 then K (!il (osZ m.s) m.code m.sub true 0 0)else K (!il (osZ m.s) m.code m.sub (cC (atG m.d)) m.d.rch.length m.d.unr.length)
theorem Ni(m:Mg):opn (tbl []) Tryz.f38 [mgV m] []=Nh m fun b=>.ret (.bool b) []:=by kernel_rfl
def rh(r:Mg->CTree):ag:=fun args H=>match args,H with
 | [x],[]=>match mgP x with
  | some m=>r m
  | none=>.fail
 | _,_=>.fail
theorem HP{x:SV}{m:Mg}(h:mgP x=some m):x=mgV m:=by
 unfold mgP at h
 split at h
 . cases h;rfl
 . cases h
theorem eh       {r:Mg->CTree}{args:List SV}{H:HpL}{v:SV}{ups:List (Nat × Option Chunk)}(h:ae   (rh   r args H)=some (v,ups)):∃ m:Mg,args=[mgV m]/\H=[]/\ae   (r m)=some (v,ups):=by
 unfold rh at h
 split at h
 . rename_i x
   split at h
   . rename_i m hm
     exact⟨m,by rw[HP hm],rfl,h⟩
   . cases h
 . cases h
abbrev yS:ag:=rh fun m=>.ret (.bool (frn m)) []
theorem Df:Known Tryz.prog 38 yS:=(aj ok0 Tryz.func38 rfl).weak (by
 intro args H v ups h
 obtain⟨m,rfl,rfl,h'⟩:=eh h
 refine(congrArg ae (Ni m)).trans ?_
 unfold Nh
 unfold frn at h'
 cases h1:m.k==1 <;> cases h2:m.k==3 <;> cases h3:m.k==2 <;> rw[h1]at h' <;> (try rw[h2]at h') <;> (try rw[h3]at h') <;> exact h')
def l7(k:Int):Bool:=bif decide (k < 1)then true else decide (k > 5)
def ntB(c s:Int):Bool:=bif bif bif decide (c < 0)then true else decide (c > 255)then true else decide (s < 0)then true else decide (s > 255)
def cE(v:SV)(e:Int):CTree:=.ret (.tup [v,.int .i64 e]) []
noncomputable def MI(d:Ds):CTree:=bif dec (Fit (atG d) d.rch d.unr)then bif bg (atG d) d.rch d.unr !=0 then cE (.iface 71 (.agg [.nils])) (bg (atG d) d.rch d.unr)else
 .ret (.tup [.iface 71 (.agg [.qs 0 1 0 (fT (atG d) (nbs d.rch) (nbs d.unr)).length]),.int .i64 0]) [(0,some (.seq 5 (fT (atG d) (nbs d.rch) (nbs d.unr))))]else .fail
noncomputable abbrev κct:=tbl [(38,yS),(39,ib)]
theorem MJ:KOk Tryz.prog κct:=ac Df (ac bytes_k6 ok0)
theorem rX(m:Mg):opn κct Tryz.f21 [mgV m] []=bif l7 m.k then cE .nili 6 else bif frn m then cE .nili 3 else
 bif m.k==1 then(bif sS m.s then cE .nili 2 else cE (.iface 101 (.agg (oV m.s))) 0)else
 bif m.k==3 then(bif ntB m.code m.sub then cE .nili 2 else cE (.iface 103 (.agg [.int .i64 m.code,.int .i64 m.sub])) 0)else
 bif m.k==2 then MI m.d else bif m.k==5 then cE (.iface 106 (.agg [])) 0 else cE (.iface 107 (.agg [])) 0:=by kernel_rfl
end Go.Proofs.YtnlmhpancboddaaGreat
namespace Go.Proofs.YtnlmhpancboddaaGreat
open Go.Am
set_option maxRecDepth 100000
end Go.Proofs.YtnlmhpancboddaaGreat
namespace Go.Proofs.YtnlmhpancboddaaGreat
open Go.Am
set_option maxRecDepth 100000
noncomputable abbrev xX:ag:=rh fun m=>.ite (l7 m.k) (cE .nili 6) .fail
theorem EH:Known Tryz.prog 21 xX:=(aj MJ Tryz.func21 rfl).weak (by
 intro args H v ups h
 obtain⟨m,rfl,rfl,h'⟩:=eh h
 refine(congrArg ae (rX m)).trans ?_
 rw[aa]at h'
 cases hk:l7 m.k with
 | true=>rw[hk]at h';exact h'
 | false=>rw[hk]at h';cases h')
theorem Lo(m:Mg):opn (tbl [(21,xX)]) Tryz.f13 [mgV m] []=bif l7 m.k then cE .nils 6 else .fail:=by kernel_rfl
noncomputable abbrev κb2:=tbl [(38,yS),(39,ib),(40,wF),(25,yx),(26,dA 2),(41,dA 4),(27,dA 1),(24,gy),(28,kz)]
theorem Nx:KOk Tryz.prog κb2:=ac Df (ac bytes_k6 (ac Id (ac Hz Lc)))
def byR(k:Int)(m:Nat)(es:List SV):CTree:=oWF 16 ffs fun m1 e1=>oWB m1 e1 (ky (w64 (19+(m:Int)))) 2 4096 fun m1 e1=>oWB m1 e1 k 1 4096 fun m1 e1=>oWP m1 e1 m es fun m1 e1=>oWO m1 e1 fun m1 e1=>.ret (.tup [.qs 0 1 0 m1,.int .i64 0]) [(0,some (.seq 5 e1))]
def zO(s:Cs)(a:Int)(n:Nat)(xs:List SV)(K:Nat->List SV->CTree):CTree:=
 oWA 4 1 4096 fun m es=>oWB m es (ky a) 2 4096 fun m es=>oWB m es (ky s.hold) 2 4096 fun m es=>oWB m es (ky s.id) 4 4096 fun m es=>oWB m es (ky (w64 ((n:Int)+2))) 1 4096 fun m es=>oWB m es 2 1 4096 fun m es=>oWB m es (ky n) 1 4096 fun m es=>
 oWP m es n xs fun m es=>oWO m es K
theorem Hj(s:Cs)(code sub:Int)(d:Ds):opn κb2 Tryz.f13 [mgV ⟨1,s,code,sub,d⟩] []=bif frn ⟨1,s,code,sub,d⟩then cE .nils 3 else bif sS s then cE .nils 2 else
 Ll s fun n xs=>bif decide (s.asn > 65535)then zO s 23456 n xs (byR 1)else zO s s.asn n xs (byR 1):=by kernel_rfl
theorem Hk(s:Cs)(code sub:Int)(d:Ds):opn κb2 Tryz.f13 [mgV ⟨3,s,code,sub,d⟩] []=bif frn ⟨3,s,code,sub,d⟩then cE .nils 3 else bif ntB code sub then cE .nils 2 else
 oWA (ky code) 1 4096 fun m es=>oWB m es (ky sub) 1 4096 fun m es=>oWO m es (byR 3):=by kernel_rfl
theorem Hl(s:Cs)(code sub:Int)(d:Ds):opn κb2 Tryz.f13 [mgV ⟨4,s,code,sub,d⟩] []=bif frn ⟨4,s,code,sub,d⟩then cE .nils 3 else byR 4 0 []:=by kernel_rfl
theorem Hm(s:Cs)(code sub:Int)(d:Ds):opn κb2 Tryz.f13 [mgV ⟨5,s,code,sub,d⟩] []=bif frn ⟨5,s,code,sub,d⟩then cE .nils 3 else oWA 1638470 4 4096 fun m es=>oWO m es (byR 5):=by kernel_rfl
noncomputable def Bh(B:List SV):CTree:=bif decide ((B.length:Int) > 4073)then cE .nils 5 else
 oWA 0 2 4096 fun m es=>oWB m es (ky B.length) 2 4096 fun m es=>oWP m es B.length B fun m es=>oWO m es (byR 2)
noncomputable def o7:ag:=fun args H=>match args,H with
 | [x,.psl 88 r,.psl 88 u],[]=>match AX x with
  | some a=>.ite (dec (Fit a r u/\bg a r u=0)) (.ret (.tup [.qs 0 1 0 (fT a (nbs r) (nbs u)).length,.int .i64 0]) [(0,some (.seq 5 (fT a (nbs r) (nbs u))))]) .fail
  | none=>.fail
 | _,_=>.fail
theorem Bi      :Known Tryz.prog 39 o7      :=bytes_k6.weak (by
 intro args H v ups h
 unfold o7 at h
 split at h
 . rename_i x r u
   split at h
   . rename_i a ha
     rw[aa]at h
     cases hc:dec _ with
     | false=>rw[hc]at h;cases h
     | true=>
      rw[hc]at h
      obtain⟨hf,h0⟩:=dec_iff.1 hc
      unfold ib
      simp only[ha]
      rw[aa,dec_iff.2 hf,cT,aa,show(bg a r u !=0)=false by simpa using h0]
      exact h
   . cases h
 . cases h)
noncomputable abbrev κb3:=tbl [(38,yS),(39,o7),(25,yx),(26,dA 2),(41,dA 4),(27,dA 1),(24,gy),(28,kz)]
theorem Ny:KOk Tryz.prog κb3:=ac Df (ac Bi (ac Hz Lc))
theorem Hn(s:Cs)(code sub:Int)(d:Ds):opn κb3 Tryz.f13 [mgV ⟨2,s,code,sub,d⟩] []=bif frn ⟨2,s,code,sub,d⟩then cE .nils 3 else
 bif dec (Fit (atG d) d.rch d.unr/\bg (atG d) d.rch d.unr=0)then Bh (fT (atG d) (nbs d.rch) (nbs d.unr))else .fail:=by kernel_rfl
noncomputable abbrev xY:ag:=rh fun m=>.ite (dec (m.k=2/\frn m=false/\Fit (atG m.d) m.d.rch m.d.unr/\bg (atG m.d) m.d.rch m.d.unr≠0)) (cE .junk (bg (atG m.d) m.d.rch m.d.unr)) .fail
theorem EI:Known Tryz.prog 21 xY:=bw (aj MJ Tryz.func21 rfl) (by
 intro args H v' ups' h
 obtain⟨m,rfl,rfl,h'⟩:=eh h
 rw[aa]at h'
 cases hc:dec (m.k=2/\frn m=false/\Fit (atG m.d) m.d.rch m.d.unr/\bg (atG m.d) m.d.rch m.d.unr≠0)with
 | false=>rw[hc]at h';cases h'
 | true=>
  rw[hc]at h'
  obtain⟨h2,hf,hfit,h0⟩:=dec_iff.1 hc
  have ht:=rX m
  unfold MI at ht
  rw[h2,show l7 2=false from rfl,cF,hf,cF,show((2:Int)==1)=false from rfl,cF,show((2:Int)==3)=false from rfl,cF,show((2:Int)==2)=true from rfl,cT,dec_iff.2 hfit,cT,show(bg (atG m.d) m.d.rch m.d.unr !=0)=true by simpa using h0,cT]at ht
  cases h'
  exact⟨_,_,congrArg ae ht,.inr ⟨.tup (.cons xo .rfl'),fun x c' hx=>⟨c',hx,.rfl'⟩⟩⟩)
theorem Lp(m:Mg):opn (tbl [(21,xY)]) Tryz.f13 [mgV m] []=bif dec (m.k=2/\frn m=false/\Fit (atG m.d) m.d.rch m.d.unr/\bg (atG m.d) m.d.rch m.d.unr≠0)then
 (bif bg (atG m.d) m.d.rch m.d.unr !=0 then cE .nils (bg (atG m.d) m.d.rch m.d.unr)else .fail)else .fail:=by kernel_rfl
end Go.Proofs.YtnlmhpancboddaaGreat
