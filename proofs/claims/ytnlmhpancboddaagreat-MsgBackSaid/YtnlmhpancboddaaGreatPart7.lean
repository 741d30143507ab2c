/- A route is decoded: one leaf. -/
import Derived.Test.YtnlmhpancboddaaGreatPart6
import Derived.Test.YtnlmhpancboddaaGreatMachine6
set_option linter.unusedVariables false
set_option linter.unusedSimpArgs false
namespace Go.Proofs.YtnlmhpancboddaaGreat
open Go.Am
set_option maxRecDepth 100000
def byl(l:List SV):Prop:=∀ v ∈ l,∃ x:Int,v= .int .u8 x/\0<=x/\x<=255
theorem byl.ok{l:List SV}(h:byl l):rj l:=by
 intro k
 unfold dg
 rw[gD0]
 cases hk:l[k]? with
 | none=>simp[asI]
 | some v=>
  obtain⟨x,rfl,h1,h2⟩:=h v (List.mem_of_getElem? hk)
  exact⟨h1,h2⟩
theorem byl.sl{l:List SV}(h:byl l)(a b:Nat):byl (sl l a b):=fun v hv=>h v (List.mem_of_mem_drop (List.mem_of_mem_take hv))
theorem byl.app{a b:List SV}(h:byl a)(k:byl b):byl (a++b):=fun v hv=>by
 rcases List.mem_append.1 hv with h1 | h1
 . exact h v h1
 . exact k v h1
theorem byl.be(n:Int):∀ k,byl (be n k)
 | 0=>fun v hv=>by cases hv
 | k+1=>fun v hv=>by
  rcases List.mem_cons.1 hv with rfl | h
  . exact⟨_,rfl,Int.emod_nonneg _ (by decide),by have:=Int.emod_lt_of_pos (n / 256 ^ k) (show(0:Int) < 256 by decide);omega⟩
  . exact byl.be n k v h
theorem Cd{a b:List SV}(ha:byl a)(hb:byl b)(h:a.map Am.byteOf=b.map Am.byteOf):a=b:=by
 induction a generalizing b with
 | nil=>cases b with
  | nil=>rfl
  | cons x b=>cases h
 | cons x a ih=>cases b with
  | nil=>cases h
  | cons y b=>
   simp only[List.map_cons,List.cons.injEq]at h
   obtain⟨p,rfl,p0,p1⟩:=ha x (by simp)
   obtain⟨q,rfl,q0,q1⟩:=hb y (by simp)
   have:p=q:=by
    have h1:=congrArg UInt8.toNat h.1
    simp only[Am.byteOf,UInt8.toNat_ofNat']at h1
    omega
   rw[this,ih (fun v hv=>ha v (by simp[hv])) (fun v hv=>hb v (by simp[hv])) h.2]
structure RgN (n:Nl):Prop where
 rd:0<=n.rd/\n.rd < 18446744073709551616
 tag:0<=n.tag/\n.tag < 4294967296
 mac:0<=n.mac/\n.mac < 18446744073709551616
 ip:0<=n.ip/\n.ip < 4294967296
 pip:0<=n.pip/\n.pip < 4294967296
 gw:0<=n.gw/\n.gw < 4294967296
 lab:0<=n.lab/\n.lab < 4294967296
 lab2:0<=n.lab2/\n.lab2 < 4294967296
theorem Ce    {n:Nl}(h:RgN n)(hc:chk n=0):OkP n:=by
 have h1:=h.rd;have h2:=h.tag;have h3:=h.mac;have h4:=h.ip;have h5:=h.pip;have h6:=h.gw;have h7:=h.lab;have h8:=h.lab2
 unfold chk at hc
 cases c1:(decide (n.kind < 1)||decide (n.kind > 5))with
 | true=>rw[c1]at hc;cases hc
 | false=>
  rw[c1,cF]at hc
  cases c2: !fm n with
  | true=>rw[c2]at hc;cases hc
  | false=>
   rw[c2,cF]at hc
   cases c3:big n with
   | true=>rw[c3]at hc;cases hc
   | false=>
    rw[c3,cF]at hc
    cases c4: !vld n.plen with
    | true=>rw[c4]at hc;cases hc
    | false=>
     have hv:vld n.plen=true:=by simpa using c4
     have hp:=(sA _).1 hv
     unfold big at c3
     simp at c3
     refine⟨h1.1,h1.2,h2.1,h2.2,h3.1,?_,h4.1,h4.2,h5.1,h5.2,hp.1,by omega,h6.1,h6.2,h7.1,?_,h8.1,?_⟩ <;> omega
def RgE(n:Nl):Prop:=byl [.int .u8 n.e0,.int .u8 n.e1,.int .u8 n.e2,.int .u8 n.e3,.int .u8 n.e4,.int .u8 n.e5,.int .u8 n.e6,.int .u8 n.e7,.int .u8 n.e8,.int .u8 n.e9]
theorem gc(n:Int):0<=w3 n/\w3 n < 4294967296:=by
 simp[w3,IntKind.wrap,IntKind.bits,IntKind.signed];omega
theorem jW{es:List SV}(h:rj es)(r:Rd)(k:Nat):0<=r.num es k/\r.num es k < 256 ^ k:=by
 have hp:(0:Int) < 256 ^ k:=Int.pow_pos (by decide)
 unfold Rd.num
 cases r.err !=0 with
 | true=>exact⟨Int.le_refl _,hp⟩
 | false=>
  cases r.few k with
  | true=>exact⟨Int.le_refl _,hp⟩
  | false=>exact bT h _ _
theorem lO{es:List SV}(h:byl es)(r:Rd)(k:Nat):byl (r.sub es k):=by
 unfold Rd.sub
 cases r.err !=0 with
 | true=>exact fun v hv=>by cases hv
 | false=>
  cases r.few k with
  | true=>exact fun v hv=>by cases hv
  | false=>exact h.sl _ _
theorem Fu{xs:List SV}(h:byl xs)(j:Nat):0<=idB xs j/\idB xs j<=255:=by
 unfold idB
 cases Nat.blt j xs.length with
 | true=>exact h.ok j
 | false=>exact⟨by simp,by simp⟩
theorem sR{xs:List SV}(h:byl xs)(n:Nl):RgE (ids xs n):=by
 intro v hv
 simp only[ids,List.mem_cons,List.not_mem_nil,or_false]at hv
 rcases hv with rfl | rfl | rfl | rfl | rfl | rfl | rfl | rfl | rfl | rfl <;> exact⟨_,rfl,Fu h _⟩
theorem zE(k:Int):RgE (zK k):=by
 intro v hv
 simp only[zK,zN,List.mem_cons,List.not_mem_nil,or_false,or_self]at hv
 exact⟨0,hv,by decide,by decide⟩
theorem pu{es:List SV}{r:Rd}{n:Nl}(h:0<=n.ip/\n.ip < 4294967296):0<=(gI es r n).ip/\(gI es r n).ip < 4294967296:=by
 unfold gI
 simp only[]
 cases r.num es 1==32 with
 | true=>exact gc _
 | false=>exact h
theorem z0:(0:Int)<=0/\(0:Int) < 4294967296:=⟨by decide,by decide⟩
theorem z6:(0:Int)<=0/\(0:Int) < 18446744073709551616:=⟨by decide,by decide⟩
theorem p8{n:Int}(h:0<=n/\n < 256 ^ 8):0<=n/\n < 18446744073709551616:=h
theorem p6{n:Int}(h:0<=n/\n < 256 ^ 6):0<=n/\n < 18446744073709551616:=⟨h.1,Int.lt_trans h.2 (by decide)⟩
theorem rg1{es:List SV}(h:byl es)(r:Rd)(k:Int):RgN (g1N es r (zK k))/\RgE (g1N es r (zK k))/\(g1N es r (zK k)).kind=k:=
 ⟨⟨p8 (jW h.ok _ _),gc _,z6,z0,z0,z0,gc _,z0⟩,sR (lO h (r.adv 8) 10) (zK k),rfl⟩
theorem rg2{es:List SV}(h:byl es)(r:Rd)(k:Int):RgN (g2N es r (zK k))/\RgE (g2N es r (zK k))/\(g2N es r (zK k)).kind=k:=by
 refine⟨⟨p8 (jW h.ok _ _),gc _,p6 (jW h.ok _ _),pu z0,z0,z0,gc _,?_⟩,sR (lO h (r.adv 8) 10) (zK k),rfl⟩
 unfold g2N
 simp only[]
 cases decide (left ((g2r es r).adv 3) > 0)with
 | true=>exact gc _
 | false=>exact z0
theorem rg3{es:List SV}(h:byl es)(r:Rd)(k:Int):RgN (g3N es r (zK k))/\RgE (g3N es r (zK k))/\(g3N es r (zK k)).kind=k:=
 ⟨⟨p8 (jW h.ok _ _),gc _,z6,pu z0,z0,z0,z0,z0⟩,zE k,rfl⟩
theorem rg4{es:List SV}(h:byl es)(r:Rd)(k:Int):RgN (g4N es r (zK k))/\RgE (g4N es r (zK k))/\(g4N es r (zK k)).kind=k:=
 ⟨⟨p8 (jW h.ok _ _),z0,z6,pu z0,z0,z0,z0,z0⟩,sR (lO h (r.adv 8) 10) (zK k),rfl⟩
theorem rg5{es:List SV}(h:byl es)(r:Rd)(k:Int):RgN (g5N es r (zK k))/\RgE (g5N es r (zK k))/\(g5N es r (zK k)).kind=k:=
 ⟨⟨p8 (jW h.ok _ _),gc _,z6,z0,gc _,gc _,gc _,z0⟩,sR (lO h (r.adv 8) 10) (zK k),rfl⟩
theorem Af(n:Int):0<=IntKind.u8.wrap n/\IntKind.u8.wrap n<=255:=by
 simp[IntKind.wrap,IntKind.bits,IntKind.signed];omega
theorem Cf    {n:Nl}(h:RgE n):byl (nb n):=by
 have e:∀ val:Nl->List SV,byl (val n)->byl (ey val n):=by
  intro val hv
  refine byl.app (fun v hx=> ?_) hv
  simp only[List.mem_cons,List.not_mem_nil,or_false]at hx
  rcases hx with rfl | rfl <;> exact⟨_,rfl,Af _⟩
 have b:=byl.be
 unfold nb
 cases n.kind==1 with
 | true=>exact e _ ((((b _ 8).app h).app (b _ _)).app (b _ _))
 | false=>cases n.kind==2 with
  | true=>
   refine e _ (((((((b _ 8).app h).app (b _ _)).app (b _ _)).app (b _ _)).app ?_).app (b _ _) |>.app ?_)
   . cases n.hip
     . exact b _ _
     . exact(b _ _).app (b _ _)
   . cases(n.lab2 !=0)
     . exact fun v hv=>by cases hv
     . exact b _ _
  | false=>cases n.kind==3 with
   | true=>exact e _ ((((b _ 8).app (b _ _)).app (b _ _)).app (b _ _))
   | false=>cases n.kind==4 with
    | true=>exact e _ ((((b _ 8).app h).app (b _ _)).app (b _ _))
    | false=>exact e _ (((((((b _ 8).app h).app (b _ _)).app (b _ _)).app (b _ _)).app (b _ _)).app (b _ _))
end Go.Proofs.YtnlmhpancboddaaGreat
namespace Go.Proofs.YtnlmhpancboddaaGreat
open Go.Am
set_option maxRecDepth 100000
def NK(k:Int):List SV->Rd->Nl->Nl:=bif k==1 then g1N else bif k==2 then g2N else bif k==3 then g3N else bif k==4 then g4N else g5N
def RK(k:Int):List SV->Rd->Rd:=bif k==1 then(fun _ r=>g1R r)else bif k==2 then g2R else bif k==3 then g3R else bif k==4 then g4R else(fun _ r=>g5R r)
def vK(k:Int):Nl->List SV:=bif k==1 then ko else bif k==2 then da else bif k==3 then kp else bif k==4 then kq else kv
theorem Dr(n:Nl):nb n=ey (vK n.kind) n:=by
 unfold nb vK
 cases n.kind==1 <;> cases n.kind==2 <;> cases n.kind==3 <;> cases n.kind==4 <;> rfl
theorem ti{n:Nl}(h:chk n=0):n.kind=1\/n.kind=2\/n.kind=3\/n.kind=4\/n.kind=5:=by
 unfold chk at h
 cases c1:(decide (n.kind < 1)||decide (n.kind > 5))with
 | true=>rw[c1]at h;cases h
 | false=>simp at c1;omega
theorem AH{n:Nl}(hc:chk n=0)(ho:OkP n):Reads (NK n.kind) (RK n.kind) (vK n.kind) n:=by
 have hf:=Np hc
 obtain⟨kind,rd,e0,e1,e2,e3,e4,e5,e6,e7,e8,e9,tag,mac,ip,hip,pip,plen,gw,lab,lab2⟩:=n
 have hk:kind=1\/kind=2\/kind=3\/kind=4\/kind=5:=ti hc
 rcases hk with rfl | rfl | rfl | rfl | rfl
 . have hf':(mac==0&&ip==0&& !hip&&pip==0&&plen==0&&gw==0&&lab2==0)=true:=hf
   simp only[bA,beq_iff_eq,Bool.not_eq_true']at hf'
   obtain⟨⟨⟨⟨⟨⟨rfl,rfl⟩,rfl⟩,rfl⟩,rfl⟩,rfl⟩,rfl⟩:=hf'
   exact Le ho
 . have hf':(pip==0&&plen==0&&gw==0&&(hip||ip==0))=true:=hf
   simp only[bA,beq_iff_eq,Bool.or_eq_true]at hf'
   obtain⟨⟨⟨rfl,rfl⟩,rfl⟩,h4⟩:=hf'
   cases hip with
   | true=>
    by_cases h2:lab2=0
    . subst h2;exact He ho
    . exact Hf ho (by simpa using h2)
   | false=>
    have:ip=0:=by simpa using h4
    subst this
    by_cases h2:lab2=0
    . subst h2;exact Hg ho
    . exact Hh ho (by simpa using h2)
 . have hf':(e0==0&&e1==0&&e2==0&&e3==0&&e4==0&&e5==0&&e6==0&&e7==0&&e8==0&&e9==0&&mac==0&&hip&&pip==0&&plen==0&&gw==0&&lab==0&&lab2==0)=true:=hf
   simp only[bA,beq_iff_eq]at hf'
   obtain⟨⟨⟨⟨⟨⟨⟨⟨⟨⟨⟨⟨⟨⟨⟨⟨rfl,rfl⟩,rfl⟩,rfl⟩,rfl⟩,rfl⟩,rfl⟩,rfl⟩,rfl⟩,rfl⟩,rfl⟩,rfl⟩,rfl⟩,rfl⟩,rfl⟩,rfl⟩,rfl⟩:=hf'
   exact Lg ho
 . have hf':(tag==0&&mac==0&&hip&&pip==0&&plen==0&&gw==0&&lab==0&&lab2==0)=true:=hf
   simp only[bA,beq_iff_eq]at hf'
   obtain⟨⟨⟨⟨⟨⟨⟨rfl,rfl⟩,rfl⟩,rfl⟩,rfl⟩,rfl⟩,rfl⟩,rfl⟩:=hf'
   exact Lh ho
 . have hf':(mac==0&&ip==0&& !hip&&lab2==0)=true:=hf
   simp only[bA,beq_iff_eq,Bool.not_eq_true']at hf'
   obtain⟨⟨⟨rfl,rfl⟩,rfl⟩,rfl⟩:=hf'
   exact Lf ho
theorem rgK{es:List SV}(h:byl es)(r:Rd)(k:Int):RgN (NK k es r (zK k))/\RgE (NK k es r (zK k))/\(NK k es r (zK k)).kind=k:=by
 unfold NK
 cases k==1 with
 | true=>exact rg1 h r k
 | false=>cases k==2 with
  | true=>exact rg2 h r k
  | false=>cases k==3 with
   | true=>exact rg3 h r k
   | false=>cases k==4 with
    | true=>exact rg4 h r k
    | false=>exact rg5 h r k
def kF(p:List SV)(n:Nl):Prop:=chk n=0/\OkP n/\nb n=p
theorem oL{p:List SV}{n:Nl}(h:kF p n):p.drop 2=vK n.kind n/\p.length=2+(vK n.kind n).length/\dg p 0=n.kind/\dg p 1=(vK n.kind n).length/\(vK n.kind n).length<=40:=by
 obtain⟨hc,ho,rfl⟩:=h
 have hk:=ti hc
 have hv:=sU n
 have hl:(vK n.kind n).length<=40:=by
  unfold vK
  cases n.kind==1 <;> cases n.kind==2 <;> cases n.kind==3 <;> cases n.kind==4 <;> simp only[cT,cF] <;> omega
 rw[Dr]
 refine⟨rfl,by simp[ey];omega,?_,?_,hl⟩
 . show IntKind.u8.wrap n.kind=n.kind
   rw[tX];omega
 . show IntKind.u8.wrap _=_
   rw[tX];omega
theorem qb{p:List SV}{n:Nl}(h:kF p n):NK (dg p 0) (p.drop 2) (RD 0 (p.length - 2)) (zK (dg p 0))=n/\(RK (dg p 0) (p.drop 2) (RD 0 (p.length - 2))).err=0/\(RK (dg p 0) (p.drop 2) (RD 0 (p.length - 2))).end_=(RK (dg p 0) (p.drop 2) (RD 0 (p.length - 2))).at_:=by
 obtain⟨h1,h2,h3,h4,h5⟩:=oL h
 have hr:=AH h.1 h.2.1
 rw[h1,h3,show p.length - 2=(vK n.kind n).length by omega]
 exact⟨hr.nl,hr.er,hr.le⟩
open Classical in
noncomputable def fy(p:List SV):Int:=if p.length < 2 then 4 else if(p.length:Int) < 2+dg p 1 then 4 else if dg p 0 < 1\/5 < dg p 0 then 6 else if ∃ n,kF p n then 0 else 3
open Classical in
noncomputable def gP(p:List SV):Nl:=if h:∃ n,kF p n then Classical.choose h else zN
theorem zf{p:List SV}{n:Nl}(h:kF p n):gP p=n:=by
 have he:∃ n,kF p n:=⟨n,h⟩
 unfold gP
 rw[dif_pos he,<- (qb h).1,<- (qb (Classical.choose_spec he)).1]
theorem oM{p:List SV}(h:¬ ∃ n,kF p n):gP p=zN:=by unfold gP;rw[dif_neg h]
theorem ma{p:List SV}{n:Nl}(h:kF p n):fy p=0:=by
 obtain⟨h1,h2,h3,h4,h5⟩:=oL h
 have hk:=ti h.1
 unfold fy
 rw[if_neg (by omega),if_neg (by omega),if_neg (by omega),if_pos ⟨n,h⟩]
end Go.Proofs.YtnlmhpancboddaaGreat
namespace Go.Proofs.YtnlmhpancboddaaGreat
open Go.Am
set_option maxRecDepth 100000
noncomputable def CB:ag:=fun args H=>match args,H with
 | [.qs 0 1 l n,.mp 1],[(0,.seq 5 es),(1,.mpc [.int .i64 1,.int .i64 2,.int .i64 3,.int .i64 4,.int .i64 5] [.iface 215 (.agg []),.iface 216 (.agg []),.iface 217 (.agg []),.iface 218 (.agg []),.iface 219 (.agg [])])]=>
  .ite (dec (byl es/\l+n<=es.length/\es.length<=1000000)) (.ret (.tup [(gP (sl es l n)).v,.int .i64 (fy (sl es l n))]) []) .fail
 | _,_=>.fail
theorem vf{es:List SV}{l n j:Nat}(h:j < n):dg (sl es l n) j=dg es (l+j):=by
 unfold dg sl
 rw[gD0,List.getElem?_take,if_pos h,List.getElem?_drop,gD0]
theorem oH(es:List SV)(l n k:Nat):(sl es l n).drop k=sl es (l+k) (n - k):=by
 unfold sl
 rw[List.drop_take,List.drop_drop]
theorem yD{x:List SV}{K:List UInt8->CTree}:Jl x K=K (x.map Am.byteOf):=by
 unfold Jl;rw[dT0 rfl,dT0 rfl];rfl
theorem yE     {es:List SV}{l n:Nat}{K:List UInt8->CTree}(h:l+n<=es.length):Jm   es l n K=K ((sl es l n).map Am.byteOf):=by
 unfold Jm
 by_cases hd:l=0/\n=es.length
 . rw[dT0 hd.1,dT0 hd.2]
   have:sl es l n=es:=by unfold sl;rw[hd.1,hd.2];simp
   rw[this];rfl
 . have hf:(decide (l=0)&&decide (n=es.length))=false:=by
     cases h5:decide (l=0) <;> cases h6:decide (n=es.length) <;> simp_all
   rw[hf,dT0 h];rfl
theorem CC{es:List SV}{l n:Nat}{kd:Int}(h:kd=1\/kd=2\/kd=3\/kd=4\/kd=5):xb es l n kd=pE (vK kd) (NK kd) (RK kd) es l n kd:=by
 rcases h with rfl | rfl | rfl | rfl | rfl <;> rfl
theorem FZ(r:Rd)(h:r.end_=r.at_):decide (left r > 0)=false:=by
 unfold left
 rw[h,Int.sub_self];rfl
theorem JA    {es:List SV}{l n:Nat}(hb:byl es)(hl:l+n<=es.length)(hs:es.length<=1000000):
  opn κd2 Tryz.f140 [.qs 0 1 l n,.mp 1] [(0,.seq 5 es),(1,cM)]= .ret (.tup [(gP (sl es l n)).v,.int .i64 (fy (sl es l n))]) []:=by
 have hpl:=eR hl
 have hbp:=hb.sl l n
 rw[Me]
 by_cases c1:(n:Int) < 2
 . have he:fy (sl es l n)=4:=by unfold fy;rw[if_pos (by omega)]
   have hn:gP (sl es l n)=zN:=oM (fun⟨m,hm⟩=>by rw[ma hm]at he;cases he)
   rw[dT0 c1,he,hn];rfl
 rw[dF0 c1,show inB 1 n=true by unfold inB;simp;omega,dT0 (show l+1 < es.length by omega)]
 have d1:dg es (l+1)=dg (sl es l n) 1:=(vf (by omega)).symm
 have d0:dg es (l+0)=dg (sl es l n) 0:=(vf (by omega)).symm
 obtain⟨r1,r2⟩:=hbp.ok 1
 obtain⟨r3,r4⟩:=hbp.ok 0
 rw[d1,d0,am (n:=dg (sl es l n) 1) (by omega) (by omega),am (n:=2+dg (sl es l n) 1) (by omega) (by omega),am (n:=dg (sl es l n) 0) (by omega) (by omega)]
 simp only[cT,cF]
 by_cases c2:(n:Int) < 2+dg (sl es l n) 1
 . have he:fy (sl es l n)=4:=by unfold fy;rw[if_neg (by omega),if_pos (by omega)]
   have hn:gP (sl es l n)=zN:=oM (fun⟨m,hm⟩=>by rw[ma hm]at he;cases he)
   rw[dT0 c2,he,hn];rfl
 rw[dF0 c2,show inB 0 n=true by unfold inB;simp;omega,dT0 (show l+0 < es.length by omega)]
 simp only[cT,cF]
 by_cases c3:dg (sl es l n) 0 < 1\/5 < dg (sl es l n) 0
 . have he:fy (sl es l n)=6:=by unfold fy;rw[if_neg (by omega),if_neg (by omega),if_pos c3]
   have hn:gP (sl es l n)=zN:=oM (fun⟨m,hm⟩=>by rw[ma hm]at he;cases he)
   rw[he,hn]
   unfold xb
   rw[beq_false_of_ne (show dg (sl es l n) 0≠1 by omega),beq_false_of_ne (show dg (sl es l n) 0≠2 by omega),beq_false_of_ne (show dg (sl es l n) 0≠3 by omega),beq_false_of_ne (show dg (sl es l n) 0≠4 by omega),beq_false_of_ne (show dg (sl es l n) 0≠5 by omega)]
   rfl
 have hk:dg (sl es l n) 0=1\/dg (sl es l n) 0=2\/dg (sl es l n) 0=3\/dg (sl es l n) 0=4\/dg (sl es l n) 0=5:=by omega
 rw[CC hk]
 have hx:sl es (l+2) ((n:Int).toNat - 2)=(sl es l n).drop 2:=by rw[oH];rfl
 have hxl:((sl es l n).drop 2).length=(n:Int).toNat - 2:=by rw[List.length_drop,hpl];rfl
 have hxb:byl ((sl es l n).drop 2):=fun v hv=>hbp v (List.mem_of_mem_drop hv)
 have hm:(n:Int).toNat - 2=n - 2:=rfl
 unfold pE
 rw[hx,dT0 (show(0:Int)<=2 by decide),dT0 (show(2:Int)<=n by omega),dT0 (Int.le_refl _),dT0 (show l+2+((n:Int).toNat - 2)<=es.length/\(n:Int).toNat - 2<=1000000 by rw[hm];omega)]
 rw[dec_iff.2 ⟨⟨by simp only[];omega,by simp only[];omega,by simp only[];rw[hxl];omega,by rw[hxl,hm];omega,hxb.ok⟩,hxl.symm⟩]
 simp only[Bool.and_self,cT]
 have hrd:(⟨0,((n:Int).toNat - 2:Nat),0,0⟩:Rd)=RD 0 ((sl es l n).length - 2):=by rw[hpl];rfl
 rw[hrd]
 obtain⟨q1,q2,q3⟩:=rgK hxb (RD 0 ((sl es l n).length - 2)) (dg (sl es l n) 0)
 by_cases hex:∃ m,kF (sl es l n) m
 . obtain⟨m,hm⟩:=hex
   obtain⟨u1,u2,u3⟩:=qb hm
   rw[ma hm,zf hm,u1]
   unfold sT
   rw[u2,FZ _ u3,hm.1,dT0 hm.2.1,yD,yE hl]
   have:ey (vK (dg (sl es l n) 0)) m=sl es l n:=by
    rw[(oL hm).2.2.1,<- Dr];exact hm.2.2
   rw[this]
   simp
 . have he:fy   (sl es l n)=3:=by unfold fy  ;rw[if_neg (by omega),if_neg (by omega),if_neg c3,if_neg hex]
   rw[he,oM hex]
   generalize NK (dg (sl es l n) 0) ((sl es l n).drop 2) (RD 0 ((sl es l n).length - 2)) (zK (dg (sl es l n) 0))=N1 at q1 q2 q3
   generalize RK (dg (sl es l n) 0) ((sl es l n).drop 2) (RD 0 ((sl es l n).length - 2))=R1
   show sT _ N1 R1 es l n=uW 3
   unfold sT
   cases R1.err !=0 with
   | true=>rfl
   | false=>cases decide (left R1 > 0)with
    | true=>rfl
    | false=>cases hcc:chk N1 !=0 with
     | true=>rfl
     | false=>
      have hc0:chk N1=0:=by simpa using hcc
      have ho:=Ce q1 hc0
      rw[dT0 ho,yD,yE hl]
      simp only[cT,cF]
      cases hq:((ey (vK (dg (sl es l n) 0)) N1).map Am.byteOf==(sl es l n).map Am.byteOf)with
      | false=>rfl
      | true=>
       have h1:=eq_of_beq hq
       rw[<- q3,<- Dr]at h1
       exact absurd ⟨N1,hc0,ho,Cd (Cf q2) hbp h1⟩ hex
theorem Mn:Known Tryz.prog 140 CB:=(aj N0 Tryz.func140 rfl).weak (by
 intro args H v ups h
 unfold CB at h
 split at h
 . rename_i l n es
   rw[aa]at h
   cases hc:dec (byl es/\l+n<=es.length/\es.length<=1000000)with
   | false=>rw[hc]at h;cases h
   | true=>
    rw[hc]at h
    obtain⟨h1,h2,h3⟩:=dec_iff.1 hc
    exact(congrArg ae (JA h1 h2 h3)).trans h
 . cases h)
noncomputable def yj:Code:=Tryz.f145.body.getD .skip
noncomputable def z9:Code:=(bx 1 yj).getD .skip
noncomputable def L5:Code:=bF [(1, "p")] yj
def lJ:Code->Option (Array Nat × Code × Code)
 | .seq a b=>match lJ a with
  | some r=>some r
  | none=>lJ b
 | .cond _ a b=>match lJ a with
  | some r=>some r
  | none=>lJ b
 | .block _ c=>lJ c
 | .scope c=>lJ c
 | .loop c=>lJ c
 | .rangeFunc _ ps a b=>some (ps,a,b)
 | _=>none
noncomputable def rng92:Array Nat × Code × Code:=(lJ (Tryz.f136.body.getD .skip)).getD (#[],.skip,.skip)
def NR(d l n:Nat):List SV:=[.qs 1 1 l n,.junk,.ptr 2 0,.ptr 3 0,.ptr 4 0,.ptr (5+d) 0,.junk,.junk,.junk,.junk,.mp (6+d),.qs 1 1 l n,.fn (.func 145) [] [.ptr (7+d) 0]]++List.replicate 24 .junk
noncomputable def gY(d:Nat)(st:LS)(l n:Nat):Chunk:=.loopr st (NR d l n) rng92.1 rng92.2.1 rng92.2.2
noncomputable def HR0(l n:Nat)(es:List SV):HpL:=[(0,gY 0 .ready l n),(1,.seq 5 es),(2,.cells 50 [.nils]),(3,.cells 28 [.int .i64 0,.int .i64 0]),(4,.cells 50 [.nils]),(5,.cells 196 [.mp 6]),(6,cM),(7,.cells 22 [.qs 1 1 l n])]
noncomputable def HR1(l n:Nat)(es:List SV)(m:Nat)(rs:List SV):HpL:=[(0,gY 1 .ready l n),(1,.seq 5 es),(2,.cells 50 [.nils]),(3,.cells 28 [.int .i64 0,.int .i64 0]),(4,.cells 50 [.qs 5 21 0 m]),(5,.seq 88 rs),(6,.cells 196 [.mp 7]),(7,cM),(8,.cells 22 [.qs 1 1 l n])]
def szP(p:List SV):Nat:=if 2<=p.length then min p.length (2+dg p 1).toNat else p.length
noncomputable def pcs:Nat->List SV->Int->List SV->Int × Int × List SV
 | 0,_,_,rs=>(0,0,rs)
 | f+1,p,a,rs=>
  if p.length=0 then(0,0,rs)
  else if rs.length=4096 then(7,a,rs)
  else if fy (p.take (szP p))≠0 then(fy (p.take (szP p)),a,rs)
  else pcs f (p.drop (szP p)) (a+szP p) (rs++[(gP (p.take (szP p))).v])
noncomputable def rc(es:List SV)(l n:Nat)(a:Int)(rs:List SV):Int × Int × List SV:=pcs (n - a.toNat) (sl es (l+a.toNat) (n - a.toNat)) a rs
def okA(es:List SV)(l n:Nat)(a:Int):Prop:=byl es/\0<=a/\a<=n/\l+n<=es.length/\es.length<=1000000
def pOf:HpL->Option (Nat × Nat × List SV × Option (Nat × List SV))
 | [(0,_),(1,.seq 5 es),(2,_),(3,_),(4,.cells 50 [.nils]),(5,_),(6,_),(7,.cells 22 [.qs 1 1 l n])]=>some (l,n,es,none)
 | [(0,_),(1,.seq 5 es),(2,_),(3,_),(4,.cells 50 [.qs 5 21 0 m]),(5,.seq 88 rs),(6,_),(7,_),(8,.cells 22 [.qs 1 1 l n])]=>some (l,n,es,some (m,rs))
 | _=>none
def wU(e a:Int):List (Nat × Option Chunk):=[(3,some (.cells 28 [.int .i64 e,.int .i64 a])),(2,some (.cells 50 [.nils]))]
noncomputable def Fi(es:List SV)(l n:Nat)(r:Int × Int × List SV):CTree:=
 .ite (decide (r.2.2.length=0))
  (.ite (r.1==0) (.ret (.tup [.int .i64 2]) []) (.ret (.tup [.int .i64 1]) (wU r.1 r.2.1++[(0,some (gY 0 (.done .ret) l n))])))
  (.ite (r.1==0) (.ret (.tup [.int .i64 2]) [(4,some (.cells 50 [.qs 8 21 0 r.2.2.length])),(8,some (.seq 88 r.2.2))]) (.ret (.tup [.int .i64 1]) (wU r.1 r.2.1++[(4,some (.cells 50 [.qs 8 21 0 r.2.2.length])),(0,some (gY 0 (.done .ret) l n)),(8,some (.seq 88 r.2.2))])))
noncomputable def Fj(es:List SV)(l n:Nat)(r:Int × Int × List SV):CTree:=
 .ite (r.1==0) (.ret (.tup [.int .i64 2]) [(4,some (.cells 50 [.qs 9 21 0 r.2.2.length])),(5,none),(9,some (.seq 88 r.2.2))])
  (.ret (.tup [.int .i64 1]) (wU r.1 r.2.1++[(4,some (.cells 50 [.qs 9 21 0 r.2.2.length])),(5,none),(0,some (gY 1 (.done .ret) l n)),(9,some (.seq 88 r.2.2))]))
noncomputable def uC:ag:=fun args H=>match args with
 | [.yl 0,.ptr q 0,.int .i64 a]=>match pOf H with
  | some (l,n,es,none)=>.ite (dec (q=7/\H=HR0 l n es/\okA es l n a)) (Fi es l n (rc es l n a [])) .fail
  | some (l,n,es,some (m,rs))=>.ite (dec (q=8/\H=HR1 l n es m rs/\m=rs.length/\rs.length<=4096/\okA es l n a)) (Fj es l n (rc es l n a rs)) .fail
  | none=>.fail
 | _=>.fail
def Ja:List SV->HpL->Nat
 | [_,_,.int _ a],H=>match pOf H with
  | some (_,n,_,_)=>n - a.toNat
  | none=>0
 | _,_=>0
noncomputable def Aa:LEnt:={ins:=[0,1,3],outs:=[],keep:=[],size:=34,code:=z9,s:=uC}
noncomputable abbrev κr:=tbl [(140,CB)]
theorem rOk:KOk Tryz.prog κr:=ac Mn ok0
noncomputable abbrev κp:=bt Tryz.prog κr 300 5
noncomputable abbrev ιp:Nat->Bool:=fun g=>inl κr g&&bJ Tryz.prog g
def wD(es:List SV)(l:Nat)(a:Int):Int:=IntKind.i64.wrap (2+IntKind.i64.wrap (dg es (l+a.toNat+1)))
def szI(es:List SV)(l n:Nat)(a:Int):Int:=bif decide (wD es l a < (((n:Int).toNat - a.toNat:Nat):Int))then wD es l a else(((n:Int).toNat - a.toNat:Nat):Int)
def mY(es:List SV)(l n:Nat)(a:Int)(K:Int->CTree):CTree:=
 bif decide (a < n)then bif decide (0<=a)&&decide (a<=n)&&decide ((n:Int)<=n)then
  bif decide ((((n:Int).toNat - a.toNat:Nat):Int)>=2)then bif inB 1 ((n:Int).toNat - a.toNat)then bif decide (l+a.toNat+1 < es.length)then
   bif decide ((0:Int)<=0)&&decide (0<=szI es l n a)&&decide (szI es l n a<=(((n:Int).toNat - a.toNat:Nat):Int))then K (szI es l n a)else .fail else .fail else .fail
  else bif decide ((0:Int)<=0)&&decide (0<=(((n:Int).toNat - a.toNat:Nat):Int))&&decide ((((n:Int).toNat - a.toNat:Nat):Int)<=(((n:Int).toNat - a.toNat:Nat):Int))then K (((n:Int).toNat - a.toNat:Nat):Int)else .fail
 else .fail else .ret (.tup [.int .i64 2]) []
noncomputable def Ih(d l n:Nat)(e a:Int):CTree:=.ret (.tup [.int .i64 1]) (wU e a++[(0,some (gY d (.done .ret) l n))])
noncomputable def EJ(es:List SV)(l:Nat)(a sz:Int)(d n:Nat)(K:Nl->CTree):CTree:=
 bif dec (byl es/\l+a.toNat+0+(sz.toNat - 0)<=es.length/\es.length<=1000000)then
  bif fy (sl es (l+a.toNat+0) (sz.toNat - 0))!=0 then Ih d l n (fy (sl es (l+a.toNat+0) (sz.toNat - 0))) a else K (gP (sl es (l+a.toNat+0) (sz.toNat - 0)))
 else .fail
noncomputable def xZ(N:Nat)(es:List SV)(l n:Nat)(a:Int)(m:Nat)(rs:List SV)(A B:Int × Int × List SV->CTree):CTree:=
 bif Nat.blt (n - a.toNat) N then bif dec (8=8/\HR1 l n es m rs=HR1 l n es m rs/\m=rs.length/\rs.length<=4096/\okA es l n a)then bif(rc es l n a rs).1==0 then A (rc es l n a rs)else B (rc es l n a rs)else .fail else .fail
noncomputable def A0(l n:Nat)(r:Int × Int × List SV):CTree:=.ret (.tup [.int .i64 2]) [(4,some (.cells 50 [.qs 8 21 0 r.2.2.length])),(0,some (gY 0 .ready l n)),(8,some (.seq 88 r.2.2))]
noncomputable def B0(l n:Nat)(r:Int × Int × List SV):CTree:=.ret (.tup [.int .i64 1]) [(2,some (.cells 50 [.nils])),(3,some (.cells 28 [.int .i64 r.1,.int .i64 r.2.1])),(4,some (.cells 50 [.qs 8 21 0 r.2.2.length])),(0,some (gY 0 (.done .ret) l n)),(8,some (.seq 88 r.2.2))]
noncomputable def A1(l n:Nat)(r:Int × Int × List SV):CTree:=.ret (.tup [.int .i64 2]) [(4,some (.cells 50 [.qs 9 21 0 r.2.2.length])),(5,none),(0,some (gY 1 .ready l n)),(9,some (.seq 88 r.2.2))]
noncomputable def B1(l n:Nat)(r:Int × Int × List SV):CTree:=.ret (.tup [.int .i64 1]) [(2,some (.cells 50 [.nils])),(3,some (.cells 28 [.int .i64 r.1,.int .i64 r.2.1])),(4,some (.cells 50 [.qs 9 21 0 r.2.2.length])),(5,none),(0,some (gY 1 (.done .ret) l n)),(9,some (.seq 88 r.2.2))]
def grB(k:Nat):Bool:=decide (k+1<=9223372036854775807)&&decide ((k+1) * 80<=140737488355328)
theorem Ii(l n N:Nat)(a:Int)(es:List SV):ay Tryz.prog κp ιp (aL []) true 300 Aa {Aa with s:=az Ja uC N} z9 [.yl 0,.ptr 7 0,.int .i64 a] (HR0 l n es)=
 mY es l n a fun sz=>EJ es l a sz 0 n fun m=>xZ N es l n (IntKind.i64.wrap (a+sz)) 1 [m.v] (A0 l n) (B0 l n):=by kernel_rfl
theorem Ij(l n N m:Nat)(a:Int)(es rs:List SV):ay Tryz.prog κp ιp (aL []) true 300 Aa {Aa with s:=az Ja uC N} z9 [.yl 0,.ptr 8 0,.int .i64 a] (HR1 l n es m rs)=
 mY es l n a fun sz=>bif(m:Int)==4096 then Ih 1 l n 7 a else EJ es l a sz 1 n fun x=>bif decide (m=rs.length)then bif grB rs.length then xZ N es l n (IntKind.i64.wrap (a+sz)) (rs.length+1) (rs++[x.v]) (A1 l n) (B1 l n)else .fail else .fail:=by kernel_rfl
end Go.Proofs.YtnlmhpancboddaaGreat
namespace Go.Proofs.YtnlmhpancboddaaGreat
open Go.Am
set_option maxRecDepth 100000
theorem sM{p:List SV}:szP p<=p.length:=by unfold szP;split <;> omega
theorem sN{p:List SV}(h:byl p)(hp:p.length≠0):1<=szP p:=by
 have:=(h.ok 1).1
 unfold szP;split <;> omega
theorem byl.dropb{p:List SV}(h:byl p)(k:Nat):byl (p.drop k):=fun v hv=>h v (List.mem_of_mem_drop hv)
theorem pg:∀ (f:Nat) (p:List SV) (a:Int) (rs:List SV),byl p->p.length<=f->pcs f p a rs=pcs p.length p a rs
 | 0,p,a,rs,_,h=>by rw[show p.length=0 by omega]
 | f+1,p,a,rs,hb,h=>by
  cases hl:p.length with
  | zero=>unfold pcs;rw[if_pos hl]
  | succ g=>
   have hs:=sN hb (by omega)
   have hd:(p.drop (szP p)).length=p.length - szP p:=List.length_drop
   unfold pcs
   rw[hl,pg f _ _ _ (hb.dropb _) (by omega),pg g _ _ _ (hb.dropb _) (by omega)]
noncomputable def gt(p:List SV)(a:Int)(rs:List SV):Int × Int × List SV:=pcs p.length p a rs
theorem ph{p:List SV}{a:Int}{rs:List SV}(h:p.length=0):gt p a rs=(0,0,rs):=by
 unfold gt;rw[h];rfl
theorem m5{p:List SV}{a:Int}{rs:List SV}(hb:byl p)(h:p.length≠0):gt p a rs=
  if rs.length=4096 then(7,a,rs)else if fy (p.take (szP p))≠0 then(fy (p.take (szP p)),a,rs)else gt (p.drop (szP p)) (a+szP p) (rs++[(gP (p.take (szP p))).v]):=by
 unfold gt
 obtain⟨g,hg⟩:∃ g,p.length=g+1:=⟨p.length - 1,by omega⟩
 have hs:=sN hb h
 have hd:(p.drop (szP p)).length=p.length - szP p:=List.length_drop
 rw[hg]
 conv=>lhs;unfold pcs
 rw[if_neg h,pg g _ _ _ (hb.dropb _) (by omega)]
theorem yg     :∀ (f:Nat) (p:List SV) (a:Int) (rs:List SV),rs.length<=(pcs f p a rs).2.2.length
 | 0,_,_,_=>Nat.le_refl _
 | f+1,p,a,rs=>by
  unfold pcs
  split
  . exact Nat.le_refl _
  . split
    . exact Nat.le_refl _
    . split
      . exact Nat.le_refl _
      . exact Nat.le_trans (by simp) (yg f _ _ _)
section
variable {es:List SV} {l n:Nat} {a:Int} (ho:okA es l n a)
include ho
theorem okA.p:(sl es (l+a.toNat) (n - a.toNat)).length=n - a.toNat/\byl (sl es (l+a.toNat) (n - a.toNat)):=by
 obtain⟨h1,h2,h3,h4,h5⟩:=ho
 exact⟨eR (by omega),h1.sl _ _⟩
theorem oF(rs:List SV):rc es l n a rs=gt (sl es (l+a.toNat) (n - a.toNat)) a rs:=by
 unfold rc gt
 rw[(okA.p ho).1]
theorem okA.next(h:a < n):okA es l n (a+szP (sl es (l+a.toNat) (n - a.toNat))):=by
 obtain⟨h1,h2,h3,h4,h5⟩:=ho
 have hl:=(okA.p ⟨h1,h2,h3,h4,h5⟩).1
 have:=sM (p:=sl es (l+a.toNat) (n - a.toNat))
 exact⟨h1,by omega,by omega,h4,h5⟩
omit ho in
theorem uj(h:¬ a < n)(K:Int->CTree):mY es l n a K= .ret (.tup [.int .i64 2]) []:=by
 unfold mY;rw[dF0 h];rfl
theorem uq      (h:a < n)(K:Int->CTree):mY     es l n a K=K (szP (sl es (l+a.toNat) (n - a.toNat)):Nat):=by
 obtain⟨hp,hbp⟩:=okA.p ho
 obtain⟨h1,h2,h3,h4,h5⟩:=ho
 have hm:(n:Int).toNat - a.toNat=n - a.toNat:=rfl
 unfold mY
 rw[dT0 h,dT0 h2,dT0 h3,dT0 (Int.le_refl _),hm]
 simp only[Bool.and_self,cT]
 by_cases hc:2<=n - a.toNat
 . have hd:dg es (l+a.toNat+1)=dg (sl es (l+a.toNat) (n - a.toNat)) 1:=(vf (by omega)).symm
   obtain⟨r1,r2⟩:=hbp.ok 1
   have hw:wD es l a=2+dg (sl es (l+a.toNat) (n - a.toNat)) 1:=by
    unfold wD
    rw[hd,am (n:=dg (sl es (l+a.toNat) (n - a.toNat)) 1) (by omega) (by omega),am (n:=2+dg (sl es (l+a.toNat) (n - a.toNat)) 1) (by omega) (by omega)]
   have hsz:szI es l n a=(szP (sl es (l+a.toNat) (n - a.toNat)):Nat):=by
    unfold szI szP
    rw[hw,hm,hp,if_pos hc]
    by_cases hlt:2+dg (sl es (l+a.toNat) (n - a.toNat)) 1 < ((n - a.toNat:Nat):Int)
    . rw[dT0 hlt,cT];omega
    . rw[dF0 hlt,cF];omega
   have hle:=sM (p:=sl es (l+a.toNat) (n - a.toNat))
   rw[dT0 (show((n - a.toNat:Nat):Int)>=2 by omega),show inB 1 (n - a.toNat)=true by unfold inB;simp;omega,dT0 (show l+a.toNat+1 < es.length by omega),hsz,
    dT0 (Int.le_refl _),dT0 (show(0:Int)<=(szP (sl es (l+a.toNat) (n - a.toNat)):Nat)by omega),dT0 (show((szP (sl es (l+a.toNat) (n - a.toNat)):Nat):Int)<=(n - a.toNat:Nat)by omega)]
   rfl
 . have hsz:szP (sl es (l+a.toNat) (n - a.toNat))=n - a.toNat:=by
     unfold szP;rw[hp,if_neg hc]
   rw[dF0 (show ¬ ((n - a.toNat:Nat):Int)>=2 by omega),hsz,dT0 (Int.le_refl _),dT0 (show(0:Int)<=(n - a.toNat:Nat)by omega),dT0 (Int.le_refl _)]
   rfl
theorem BE(h:a < n)(d:Nat)(K:Nl->CTree):EJ es l a (szP (sl es (l+a.toNat) (n - a.toNat)):Nat) d n K=
  bif fy ((sl es (l+a.toNat) (n - a.toNat)).take (szP (sl es (l+a.toNat) (n - a.toNat))))!=0 then Ih d l n (fy ((sl es (l+a.toNat) (n - a.toNat)).take (szP (sl es (l+a.toNat) (n - a.toNat))))) a
   else K (gP ((sl es (l+a.toNat) (n - a.toNat)).take (szP (sl es (l+a.toNat) (n - a.toNat))))):=by
 obtain⟨hp,hbp⟩:=okA.p ho
 obtain⟨h1,h2,h3,h4,h5⟩:=ho
 have hle:=sM (p:=sl es (l+a.toNat) (n - a.toNat))
 generalize szP (sl es (l+a.toNat) (n - a.toNat))=k at hle ⊢
 have he:sl es (l+a.toNat+0) (((k:Nat):Int).toNat - 0)=(sl es (l+a.toNat) (n - a.toNat)).take k:=by
  unfold sl
  rw[List.take_take,Nat.min_eq_left (by omega)];rfl
 unfold EJ
 rw[dec_iff.2 ⟨h1,by show l+a.toNat+0+(k - 0)<=es.length;omega,h5⟩,he]
 rfl
theorem yh(h:a < n){N:Nat}(hN:Nat.blt (n - a.toNat) (N+1)=true){m:Nat}{rs:List SV}(hm:m=rs.length)(hq:rs.length<=4096)(A B:Int × Int × List SV->CTree):
  xZ N es l n (IntKind.i64.wrap (a+(szP (sl es (l+a.toNat) (n - a.toNat)):Nat))) m rs A B=
   bif(gt ((sl es (l+a.toNat) (n - a.toNat)).drop (szP (sl es (l+a.toNat) (n - a.toNat)))) (a+szP (sl es (l+a.toNat) (n - a.toNat))) rs).1==0
   then A (gt ((sl es (l+a.toNat) (n - a.toNat)).drop (szP (sl es (l+a.toNat) (n - a.toNat)))) (a+szP (sl es (l+a.toNat) (n - a.toNat))) rs)
   else B (gt ((sl es (l+a.toNat) (n - a.toNat)).drop (szP (sl es (l+a.toNat) (n - a.toNat)))) (a+szP (sl es (l+a.toNat) (n - a.toNat))) rs):=by
 have hn:=okA.next ho h
 obtain⟨hp,hbp⟩:=okA.p ho
 have hle:=sM (p:=sl es (l+a.toNat) (n - a.toNat))
 have hps:=sN hbp (by rw[hp];obtain⟨h1,h2,h3,h4,h5⟩:=ho;omega)
 have hx:=oF hn rs
 generalize szP (sl es (l+a.toNat) (n - a.toNat))=k at hle hps hn hx ⊢
 obtain⟨h1,h2,h3,h4,h5⟩:=ho
 rw[bL]at hN
 have hw:IntKind.i64.wrap (a+(k:Nat))=a+k:=am (by omega) (by omega)
 have ha:(a+(k:Int)).toNat=a.toNat+k:=by omega
 unfold xZ
 rw[hw,dec_iff.2 ⟨rfl,rfl,hm,hq,hn⟩,show Nat.blt (n - (a+(k:Int)).toNat) N=true by rw[bL];omega,hx,oH]
 rw[ha,show l+(a.toNat+k)=l+a.toNat+k by omega,show n - (a.toNat+k)=n - a.toNat - k by omega]
 rfl
end
end Go.Proofs.YtnlmhpancboddaaGreat
