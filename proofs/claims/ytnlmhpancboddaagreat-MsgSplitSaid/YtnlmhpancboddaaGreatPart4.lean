/- Routes: their values are put. -/
import Derived.Test.YtnlmhpancboddaaGreatPart1
import Derived.Test.YtnlmhpancboddaaGreatPart3
set_option linter.unusedVariables false
set_option linter.unusedSimpArgs false
namespace Go.Proofs.YtnlmhpancboddaaGreat
open Go.Am
set_option maxRecDepth 100000
abbrev κb:=tbl [(82,gj),(27,iM 1),(26,iM 2),(108,iM 3),(41,iM 4),(177,iM 6),(172,iM 8),(24,sv),(28,xK)]
theorem bOk:KOk Tryz.prog κb:=af oP (af Nt (af K1 (af K4 (af K7 (af La (af Ld (af EW (af Hv ok0))))))))
structure OkP (n:Nl):Prop where
 (rd0:0<=n.rd) (rd1:n.rd < 18446744073709551616) (tag0:0<=n.tag) (tag1:n.tag < 4294967296) (mac0:0<=n.mac) (mac1:n.mac < 281474976710656) (ip0:0<=n.ip) (ip1:n.ip < 4294967296) (pip0:0<=n.pip) (pip1:n.pip < 4294967296) (pl0:0<=n.plen) (pl1:n.plen < 256) (gw0:0<=n.gw) (gw1:n.gw < 4294967296) (lab0:0<=n.lab) (lab1:n.lab < 16777216) (lac0:0<=n.lab2) (lac1:n.lab2 < 16777216)
noncomputable instance okPDec (n:Nl):Decidable (OkP n):=Classical.propDecidable _
theorem aR{n:Int}(h1:0<=n)(h2:n < 18446744073709551616):IntKind.u64.wrap n=n:=by
 simp[IntKind.wrap,IntKind.bits,IntKind.signed];omega
def g8(n:Nl):List SV:=be n.rd 8++[.int .u8 n.e0,.int .u8 n.e1,.int .u8 n.e2,.int .u8 n.e3,.int .u8 n.e4,.int .u8 n.e5,.int .u8 n.e6,.int .u8 n.e7,.int .u8 n.e8,.int .u8 n.e9]++be n.tag 4++be n.lab 3
def bI(n:Nl):List SV:=be n.rd 8++[.int .u8 n.e0,.int .u8 n.e1,.int .u8 n.e2,.int .u8 n.e3,.int .u8 n.e4,.int .u8 n.e5,.int .u8 n.e6,.int .u8 n.e7,.int .u8 n.e8,.int .u8 n.e9]++be n.tag 4++be 48 1++be n.mac 6++(bif n.hip then be 32 1++be n.ip 4 else be 0 1)++be n.lab 3++(bif n.lab2 !=0 then be n.lab2 3 else [])
def g9(n:Nl):List SV:=be n.rd 8++be n.tag 4++be 32 1++be n.ip 4
def hJ(n:Nl):List SV:=be n.rd 8++[.int .u8 n.e0,.int .u8 n.e1,.int .u8 n.e2,.int .u8 n.e3,.int .u8 n.e4,.int .u8 n.e5,.int .u8 n.e6,.int .u8 n.e7,.int .u8 n.e8,.int .u8 n.e9]++be 32 1++be n.ip 4
def hO(n:Nl):List SV:=be n.rd 8++[.int .u8 n.e0,.int .u8 n.e1,.int .u8 n.e2,.int .u8 n.e3,.int .u8 n.e4,.int .u8 n.e5,.int .u8 n.e6,.int .u8 n.e7,.int .u8 n.e8,.int .u8 n.e9]++be n.tag 4++be n.plen 1++be n.pip 4++be n.gw 4++be n.lab 3
noncomputable def fx(val:Nl->List SV):ag:=fun args H=>match args,H with
 | [.agg [],.ptr 0 0,x],[(0,.cells 111 [.nils,.int .i64 lim,.mp 1]),(1,.mpc [] [])]=>match wo x with
  | some n=>.ite (decide (lim=40/\OkP n)) (.ret (.tup []) [(0,some (.cells 111 [.qs 2 1 0 (val n).length,.int .i64 40,.mp 1])),(2,some (.seq 5 (val n)))]) .fail
  | none=>.fail
 | _,_=>.fail
theorem gN       {val:Nl->List SV}{args:List SV}{H:HpL}{v:SV}{ups:List (Nat × Option Chunk)}(h:ac   (fx     val args H)=some (v,ups)):
  ∃ n:Nl,OkP n/\args=[.agg [],.ptr 0 0,n.v]/\H=[(0,.cells 111 [.nils,.int .i64 40,.mp 1]),(1,.mpc [] [])]/\v= .tup []/\ups=[(0,some (.cells 111 [.qs 2 1 0 (val n).length,.int .i64 40,.mp 1])),(2,some (.seq 5 (val n)))]:=by
 unfold fx at h
 split at h
 . rename_i x lim
   split at h
   . rename_i n hn
     rw[aa,cond_eq_ite]at h
     split at h
     . rename_i hc
       have hc2:lim=40/\OkP n:=by simpa using hc
       obtain⟨rfl,hok⟩:=hc2
       cases h
       exact⟨n,hok,by rw[oN hn],rfl,rfl,rfl⟩
     . cases h
   . cases h
 . cases h
theorem FV(kind rd e0 e1 e2 e3 e4 e5 e6 e7 e8 e9 tag mac ip:Int)(hip:Bool)(pip plen gw lab lab2:Int):opn κb Tryz.f169 [.agg [],.ptr 0 0,Nl.v ⟨kind,rd,e0,e1,e2,e3,e4,e5,e6,e7,e8,e9,tag,mac,ip,hip,pip,plen,gw,lab,lab2⟩] [(0,.cells 111 [.nils,.int .i64 40,.mp 1]),(1,.mpc [] [])]=
 bif decide (0<=rd/\rd < 256 ^ 8/\((8:Nat):Int)<=40/\(40:Int)<=65536)then(bif decide (18=18/\0<=(IntKind.u64.wrap tag)/\(IntKind.u64.wrap tag) < 256 ^ 4/\((18+4:Nat):Int)<=40/\(40:Int)<=65536)then(bif decide (22=22/\0<=(IntKind.u64.wrap lab)/\(IntKind.u64.wrap lab) < 256 ^ 3/\((22+3:Nat):Int)<=40/\(40:Int)<=65536)then(.ret (.tup []) [(0,some (.cells 111 [.qs 2 1 0 25,.int .i64 40,.mp 1])),(2,some (.seq 5 (be rd 8++[.int .u8 e0,.int .u8 e1,.int .u8 e2,.int .u8 e3,.int .u8 e4,.int .u8 e5,.int .u8 e6,.int .u8 e7,.int .u8 e8,.int .u8 e9]++be (IntKind.u64.wrap tag) 4++be (IntKind.u64.wrap lab) 3)))])else .fail)else .fail)else .fail:=by kernel_rfl
theorem FW:Known Tryz.prog 169 (fx g8):=(am bOk Tryz.func169 rfl).weak (by
 intro args H v ups h
 obtain⟨n,hok,rfl,rfl,rfl,rfl⟩:=gN h
 obtain⟨kind,rd,e0,e1,e2,e3,e4,e5,e6,e7,e8,e9,tag,mac,ip,hip,pip,plen,gw,lab,lab2⟩:=n
 obtain⟨rd0,rd1,tag0,tag1,mac0,mac1,ip0,ip1,pip0,pip1,pl0,pl1,gw0,gw1,lab0,lab1,lac0,lac1⟩:=hok
 simp only at rd0 rd1 tag0 tag1 mac0 mac1 ip0 ip1 pip0 pip1 pl0 pl1 gw0 gw1 lab0 lab1 lac0 lac1
 rw[FV]
 have w1:=aR tag0 (by omega)
 have w2:=aR ip0 (by omega)
 have w3:=aR pip0 (by omega)
 have w4:=aR pl0 (by omega)
 have w5:=aR gw0 (by omega)
 have w6:=aR lab0 (by omega)
 have w7:=aR lac0 (by omega)
 rw[dT0 (by omega),dT0 (by omega),dT0 (by omega)]
 simp only[w1,w2,w3,w4,w5,w6,w7]
 rfl)
theorem FX(kind rd e0 e1 e2 e3 e4 e5 e6 e7 e8 e9 tag mac ip:Int)(hip:Bool)(pip plen gw lab lab2:Int):opn κb Tryz.f174 [.agg [],.ptr 0 0,Nl.v ⟨kind,rd,e0,e1,e2,e3,e4,e5,e6,e7,e8,e9,tag,mac,ip,hip,pip,plen,gw,lab,lab2⟩] [(0,.cells 111 [.nils,.int .i64 40,.mp 1]),(1,.mpc [] [])]=
 bif decide (0<=rd/\rd < 256 ^ 8/\((8:Nat):Int)<=40/\(40:Int)<=65536)then(bif decide (18=18/\0<=(IntKind.u64.wrap tag)/\(IntKind.u64.wrap tag) < 256 ^ 4/\((18+4:Nat):Int)<=40/\(40:Int)<=65536)then(bif decide (23=23/\0<=mac/\mac < 256 ^ 6/\((23+6:Nat):Int)<=40/\(40:Int)<=65536)then(bif hip then(bif decide (30=30/\0<=(IntKind.u64.wrap ip)/\(IntKind.u64.wrap ip) < 256 ^ 4/\((30+4:Nat):Int)<=40/\(40:Int)<=65536)then(bif decide (34=34/\0<=(IntKind.u64.wrap lab)/\(IntKind.u64.wrap lab) < 256 ^ 3/\((34+3:Nat):Int)<=40/\(40:Int)<=65536)then(bif lab2 !=0 then(bif decide (37=37/\0<=(IntKind.u64.wrap lab2)/\(IntKind.u64.wrap lab2) < 256 ^ 3/\((37+3:Nat):Int)<=40/\(40:Int)<=65536)then(.ret (.tup []) [(0,some (.cells 111 [.qs 2 1 0 40,.int .i64 40,.mp 1])),(2,some (.seq 5 (be rd 8++[.int .u8 e0,.int .u8 e1,.int .u8 e2,.int .u8 e3,.int .u8 e4,.int .u8 e5,.int .u8 e6,.int .u8 e7,.int .u8 e8,.int .u8 e9]++be (IntKind.u64.wrap tag) 4++be 48 1++be mac 6++be 32 1++be (IntKind.u64.wrap ip) 4++be (IntKind.u64.wrap lab) 3++be (IntKind.u64.wrap lab2) 3)))])else .fail)else .ret (.tup []) [(0,some (.cells 111 [.qs 2 1 0 37,.int .i64 40,.mp 1])),(2,some (.seq 5 (be rd 8++[.int .u8 e0,.int .u8 e1,.int .u8 e2,.int .u8 e3,.int .u8 e4,.int .u8 e5,.int .u8 e6,.int .u8 e7,.int .u8 e8,.int .u8 e9]++be (IntKind.u64.wrap tag) 4++be 48 1++be mac 6++be 32 1++be (IntKind.u64.wrap ip) 4++be (IntKind.u64.wrap lab) 3)))])else .fail)else .fail)else(bif decide (30=30/\0<=(IntKind.u64.wrap lab)/\(IntKind.u64.wrap lab) < 256 ^ 3/\((30+3:Nat):Int)<=40/\(40:Int)<=65536)then(bif lab2 !=0 then(bif decide (33=33/\0<=(IntKind.u64.wrap lab2)/\(IntKind.u64.wrap lab2) < 256 ^ 3/\((33+3:Nat):Int)<=40/\(40:Int)<=65536)then(.ret (.tup []) [(0,some (.cells 111 [.qs 2 1 0 36,.int .i64 40,.mp 1])),(2,some (.seq 5 (be rd 8++[.int .u8 e0,.int .u8 e1,.int .u8 e2,.int .u8 e3,.int .u8 e4,.int .u8 e5,.int .u8 e6,.int .u8 e7,.int .u8 e8,.int .u8 e9]++be (IntKind.u64.wrap tag) 4++be 48 1++be mac 6++be 0 1++be (IntKind.u64.wrap lab) 3++be (IntKind.u64.wrap lab2) 3)))])else .fail)else .ret (.tup []) [(0,some (.cells 111 [.qs 2 1 0 33,.int .i64 40,.mp 1])),(2,some (.seq 5 (be rd 8++[.int .u8 e0,.int .u8 e1,.int .u8 e2,.int .u8 e3,.int .u8 e4,.int .u8 e5,.int .u8 e6,.int .u8 e7,.int .u8 e8,.int .u8 e9]++be (IntKind.u64.wrap tag) 4++be 48 1++be mac 6++be 0 1++be (IntKind.u64.wrap lab) 3)))])else .fail))else .fail)else .fail)else .fail:=by kernel_rfl
theorem FY:Known Tryz.prog 174 (fx bI):=(am bOk Tryz.func174 rfl).weak (by
 intro args H v ups h
 obtain⟨n,hok,rfl,rfl,rfl,rfl⟩:=gN h
 obtain⟨kind,rd,e0,e1,e2,e3,e4,e5,e6,e7,e8,e9,tag,mac,ip,hip,pip,plen,gw,lab,lab2⟩:=n
 obtain⟨rd0,rd1,tag0,tag1,mac0,mac1,ip0,ip1,pip0,pip1,pl0,pl1,gw0,gw1,lab0,lab1,lac0,lac1⟩:=hok
 simp only at rd0 rd1 tag0 tag1 mac0 mac1 ip0 ip1 pip0 pip1 pl0 pl1 gw0 gw1 lab0 lab1 lac0 lac1
 rw[FX]
 have w1:=aR tag0 (by omega)
 have w2:=aR ip0 (by omega)
 have w3:=aR pip0 (by omega)
 have w4:=aR pl0 (by omega)
 have w5:=aR gw0 (by omega)
 have w6:=aR lab0 (by omega)
 have w7:=aR lac0 (by omega)
 rw[dT0 (by omega),dT0 (by omega),dT0 (by omega)]
 cases hip with
 | true=>
  rw[cT,cT,cT,cT]
  rw[dT0 (by omega),dT0 (by omega)]
  cases hl:(lab2 !=0)with
  | true=>rw[cT,cT,cT,dT0 (by omega)];simp only[bI,hl,w1,w2,w3,w4,w5,w6,w7];rfl
  | false=>simp only[bI,hl,w1,w2,w3,w4,w5,w6,w7];rfl
 | false=>
  rw[cT,cT,cT,cF]
  rw[dT0 (by omega)]
  cases hl:(lab2 !=0)with
  | true=>rw[cT,cT,dT0 (by omega)];simp only[bI,hl,w1,w2,w3,w4,w5,w6,w7];rfl
  | false=>simp only[bI,hl,w1,w2,w3,w4,w5,w6,w7];rfl)
theorem FZ(kind rd e0 e1 e2 e3 e4 e5 e6 e7 e8 e9 tag mac ip:Int)(hip:Bool)(pip plen gw lab lab2:Int):opn κb Tryz.f180 [.agg [],.ptr 0 0,Nl.v ⟨kind,rd,e0,e1,e2,e3,e4,e5,e6,e7,e8,e9,tag,mac,ip,hip,pip,plen,gw,lab,lab2⟩] [(0,.cells 111 [.nils,.int .i64 40,.mp 1]),(1,.mpc [] [])]=
 bif decide (0<=rd/\rd < 256 ^ 8/\((8:Nat):Int)<=40/\(40:Int)<=65536)then(bif decide (8=8/\0<=(IntKind.u64.wrap tag)/\(IntKind.u64.wrap tag) < 256 ^ 4/\((8+4:Nat):Int)<=40/\(40:Int)<=65536)then(bif decide (13=13/\0<=(IntKind.u64.wrap ip)/\(IntKind.u64.wrap ip) < 256 ^ 4/\((13+4:Nat):Int)<=40/\(40:Int)<=65536)then(.ret (.tup []) [(0,some (.cells 111 [.qs 2 1 0 17,.int .i64 40,.mp 1])),(2,some (.seq 5 (be rd 8++be (IntKind.u64.wrap tag) 4++be 32 1++be (IntKind.u64.wrap ip) 4)))])else .fail)else .fail)else .fail:=by kernel_rfl
theorem F0:Known Tryz.prog 180 (fx g9):=(am bOk Tryz.func180 rfl).weak (by
 intro args H v ups h
 obtain⟨n,hok,rfl,rfl,rfl,rfl⟩:=gN h
 obtain⟨kind,rd,e0,e1,e2,e3,e4,e5,e6,e7,e8,e9,tag,mac,ip,hip,pip,plen,gw,lab,lab2⟩:=n
 obtain⟨rd0,rd1,tag0,tag1,mac0,mac1,ip0,ip1,pip0,pip1,pl0,pl1,gw0,gw1,lab0,lab1,lac0,lac1⟩:=hok
 simp only at rd0 rd1 tag0 tag1 mac0 mac1 ip0 ip1 pip0 pip1 pl0 pl1 gw0 gw1 lab0 lab1 lac0 lac1
 rw[FZ]
 have w1:=aR tag0 (by omega)
 have w2:=aR ip0 (by omega)
 have w3:=aR pip0 (by omega)
 have w4:=aR pl0 (by omega)
 have w5:=aR gw0 (by omega)
 have w6:=aR lab0 (by omega)
 have w7:=aR lac0 (by omega)
 rw[dT0 (by omega),dT0 (by omega),dT0 (by omega)]
 simp only[w1,w2,w3,w4,w5,w6,w7]
 rfl)
theorem F3(kind rd e0 e1 e2 e3 e4 e5 e6 e7 e8 e9 tag mac ip:Int)(hip:Bool)(pip plen gw lab lab2:Int):opn κb Tryz.f182 [.agg [],.ptr 0 0,Nl.v ⟨kind,rd,e0,e1,e2,e3,e4,e5,e6,e7,e8,e9,tag,mac,ip,hip,pip,plen,gw,lab,lab2⟩] [(0,.cells 111 [.nils,.int .i64 40,.mp 1]),(1,.mpc [] [])]=
 bif decide (0<=rd/\rd < 256 ^ 8/\((8:Nat):Int)<=40/\(40:Int)<=65536)then(bif decide (19=19/\0<=(IntKind.u64.wrap ip)/\(IntKind.u64.wrap ip) < 256 ^ 4/\((19+4:Nat):Int)<=40/\(40:Int)<=65536)then(.ret (.tup []) [(0,some (.cells 111 [.qs 2 1 0 23,.int .i64 40,.mp 1])),(2,some (.seq 5 (be rd 8++[.int .u8 e0,.int .u8 e1,.int .u8 e2,.int .u8 e3,.int .u8 e4,.int .u8 e5,.int .u8 e6,.int .u8 e7,.int .u8 e8,.int .u8 e9]++be 32 1++be (IntKind.u64.wrap ip) 4)))])else .fail)else .fail:=by kernel_rfl
theorem F4:Known Tryz.prog 182 (fx hJ):=(am bOk Tryz.func182 rfl).weak (by
 intro args H v ups h
 obtain⟨n,hok,rfl,rfl,rfl,rfl⟩:=gN h
 obtain⟨kind,rd,e0,e1,e2,e3,e4,e5,e6,e7,e8,e9,tag,mac,ip,hip,pip,plen,gw,lab,lab2⟩:=n
 obtain⟨rd0,rd1,tag0,tag1,mac0,mac1,ip0,ip1,pip0,pip1,pl0,pl1,gw0,gw1,lab0,lab1,lac0,lac1⟩:=hok
 simp only at rd0 rd1 tag0 tag1 mac0 mac1 ip0 ip1 pip0 pip1 pl0 pl1 gw0 gw1 lab0 lab1 lac0 lac1
 rw[F3]
 have w1:=aR tag0 (by omega)
 have w2:=aR ip0 (by omega)
 have w3:=aR pip0 (by omega)
 have w4:=aR pl0 (by omega)
 have w5:=aR gw0 (by omega)
 have w6:=aR lab0 (by omega)
 have w7:=aR lac0 (by omega)
 rw[dT0 (by omega),dT0 (by omega)]
 simp only[w1,w2,w3,w4,w5,w6,w7]
 rfl)
theorem F5(kind rd e0 e1 e2 e3 e4 e5 e6 e7 e8 e9 tag mac ip:Int)(hip:Bool)(pip plen gw lab lab2:Int):opn κb Tryz.f184 [.agg [],.ptr 0 0,Nl.v ⟨kind,rd,e0,e1,e2,e3,e4,e5,e6,e7,e8,e9,tag,mac,ip,hip,pip,plen,gw,lab,lab2⟩] [(0,.cells 111 [.nils,.int .i64 40,.mp 1]),(1,.mpc [] [])]=
 bif decide (0<=rd/\rd < 256 ^ 8/\((8:Nat):Int)<=40/\(40:Int)<=65536)then(bif decide (18=18/\0<=(IntKind.u64.wrap tag)/\(IntKind.u64.wrap tag) < 256 ^ 4/\((18+4:Nat):Int)<=40/\(40:Int)<=65536)then(bif decide (22=22/\0<=(IntKind.u64.wrap plen)/\(IntKind.u64.wrap plen) < 256 ^ 1/\((22+1:Nat):Int)<=40/\(40:Int)<=65536)then(bif decide (23=23/\0<=(IntKind.u64.wrap pip)/\(IntKind.u64.wrap pip) < 256 ^ 4/\((23+4:Nat):Int)<=40/\(40:Int)<=65536)then(bif decide (27=27/\0<=(IntKind.u64.wrap gw)/\(IntKind.u64.wrap gw) < 256 ^ 4/\((27+4:Nat):Int)<=40/\(40:Int)<=65536)then(bif decide (31=31/\0<=(IntKind.u64.wrap lab)/\(IntKind.u64.wrap lab) < 256 ^ 3/\((31+3:Nat):Int)<=40/\(40:Int)<=65536)then(.ret (.tup []) [(0,some (.cells 111 [.qs 2 1 0 34,.int .i64 40,.mp 1])),(2,some (.seq 5 (be rd 8++[.int .u8 e0,.int .u8 e1,.int .u8 e2,.int .u8 e3,.int .u8 e4,.int .u8 e5,.int .u8 e6,.int .u8 e7,.int .u8 e8,.int .u8 e9]++be (IntKind.u64.wrap tag) 4++be (IntKind.u64.wrap plen) 1++be (IntKind.u64.wrap pip) 4++be (IntKind.u64.wrap gw) 4++be (IntKind.u64.wrap lab) 3)))])else .fail)else .fail)else .fail)else .fail)else .fail)else .fail:=by kernel_rfl
theorem F6:Known Tryz.prog 184 (fx hO):=(am bOk Tryz.func184 rfl).weak (by
 intro args H v ups h
 obtain⟨n,hok,rfl,rfl,rfl,rfl⟩:=gN h
 obtain⟨kind,rd,e0,e1,e2,e3,e4,e5,e6,e7,e8,e9,tag,mac,ip,hip,pip,plen,gw,lab,lab2⟩:=n
 obtain⟨rd0,rd1,tag0,tag1,mac0,mac1,ip0,ip1,pip0,pip1,pl0,pl1,gw0,gw1,lab0,lab1,lac0,lac1⟩:=hok
 simp only at rd0 rd1 tag0 tag1 mac0 mac1 ip0 ip1 pip0 pip1 pl0 pl1 gw0 gw1 lab0 lab1 lac0 lac1
 rw[F5]
 have w1:=aR tag0 (by omega)
 have w2:=aR ip0 (by omega)
 have w3:=aR pip0 (by omega)
 have w4:=aR pl0 (by omega)
 have w5:=aR gw0 (by omega)
 have w6:=aR lab0 (by omega)
 have w7:=aR lac0 (by omega)
 rw[dT0 (by omega),dT0 (by omega),dT0 (by omega),dT0 (by omega),dT0 (by omega),dT0 (by omega)]
 simp only[w1,w2,w3,w4,w5,w6,w7]
 rfl)
noncomputable abbrev κc:=tbl [(82,gj),(169,fx g8),(174,fx bI),(180,fx g9),(182,fx hJ),(184,fx hO),(28,xK)]
theorem cOk:KOk Tryz.prog κc:=af oP (af FW (af FY (af F0 (af F4 (af F6 (af Hv ok0))))))
def gz(val:Nl->List SV)(n:Nl):List SV:=[.int .u8 (IntKind.u8.wrap n.kind),.int .u8 (IntKind.u8.wrap ((val n).length:Int))]++val n
noncomputable def wM(val:Nl->List SV)(n:Nl):CTree:=
 bif decide ((40:Int)=40/\OkP n)then bif decide ((val n).length=(val n).length/\(val n).length<=65536)then
  (bif decide ((val n).length=(val n).length)then
   (bif decide (2+(val n).length<=9223372036854775807)&&decide ((2+(val n).length) * 1<=140737488355328)then .ret (.qs 0 1 0 (2+(val n).length)) [(0,some (.seq 5 (gz val n)))]else .fail)
   else bif decide (0+(val n).length<=(val n).length)then
    (bif decide (2+(((val n).drop 0).take (val n).length).length<=9223372036854775807)&&decide ((2+(((val n).drop 0).take (val n).length).length) * 1<=140737488355328)then .ret (.qs 0 1 0 (2+(((val n).drop 0).take (val n).length).length)) [(0,some (.seq 5 ([.int .u8 (IntKind.u8.wrap n.kind),.int .u8 (IntKind.u8.wrap ((val n).length:Int))]++(((val n).drop 0).take (val n).length))))]else .fail)else .fail)
  else .fail else .fail
theorem yc(n:Nl):(g8 n).length<=40/\(bI n).length<=40/\(g9 n).length<=40/\(hJ n).length<=40/\(hO n).length<=40:=by
 refine⟨by simp[g8,ap],?_,by simp[g9,ap],by simp[hJ,ap],by simp[hO,ap]⟩
 cases h:n.hip <;> cases h2:(n.lab2 !=0) <;> simp[bI,ap,h,h2]
theorem lw{val:Nl->List SV}{n:Nl}(hl:(val n).length<=40)(hok:OkP n):ac (wM val n)=some (.qs 0 1 0 (gz val n).length,[(0,some (.seq 5 (gz val n)))]):=by
 unfold wM
 rw[dT0 (show(40:Int)=40/\OkP n from⟨rfl,hok⟩),dT0 (show _/\(val n).length<=65536 from⟨rfl,by omega⟩),dT0 rfl,dT0 (by omega),dT0 (by omega)]
 simp[ac,gz,Nat.add_comm];omega
theorem I4(kind rd e0 e1 e2 e3 e4 e5 e6 e7 e8 e9 tag mac ip:Int)(hip:Bool)(pip plen gw lab lab2:Int):opn κc Tryz.f106 [Nl.v ⟨kind,rd,e0,e1,e2,e3,e4,e5,e6,e7,e8,e9,tag,mac,ip,hip,pip,plen,gw,lab,lab2⟩,.iface 215 (.agg [])] []=wM g8 ⟨kind,rd,e0,e1,e2,e3,e4,e5,e6,e7,e8,e9,tag,mac,ip,hip,pip,plen,gw,lab,lab2⟩:=by kernel_rfl
theorem I5(kind rd e0 e1 e2 e3 e4 e5 e6 e7 e8 e9 tag mac ip:Int)(hip:Bool)(pip plen gw lab lab2:Int):opn κc Tryz.f106 [Nl.v ⟨kind,rd,e0,e1,e2,e3,e4,e5,e6,e7,e8,e9,tag,mac,ip,hip,pip,plen,gw,lab,lab2⟩,.iface 216 (.agg [])] []=wM bI ⟨kind,rd,e0,e1,e2,e3,e4,e5,e6,e7,e8,e9,tag,mac,ip,hip,pip,plen,gw,lab,lab2⟩:=by kernel_rfl
theorem I6(kind rd e0 e1 e2 e3 e4 e5 e6 e7 e8 e9 tag mac ip:Int)(hip:Bool)(pip plen gw lab lab2:Int):opn κc Tryz.f106 [Nl.v ⟨kind,rd,e0,e1,e2,e3,e4,e5,e6,e7,e8,e9,tag,mac,ip,hip,pip,plen,gw,lab,lab2⟩,.iface 217 (.agg [])] []=wM g9 ⟨kind,rd,e0,e1,e2,e3,e4,e5,e6,e7,e8,e9,tag,mac,ip,hip,pip,plen,gw,lab,lab2⟩:=by kernel_rfl
theorem I7(kind rd e0 e1 e2 e3 e4 e5 e6 e7 e8 e9 tag mac ip:Int)(hip:Bool)(pip plen gw lab lab2:Int):opn κc Tryz.f106 [Nl.v ⟨kind,rd,e0,e1,e2,e3,e4,e5,e6,e7,e8,e9,tag,mac,ip,hip,pip,plen,gw,lab,lab2⟩,.iface 218 (.agg [])] []=wM hJ ⟨kind,rd,e0,e1,e2,e3,e4,e5,e6,e7,e8,e9,tag,mac,ip,hip,pip,plen,gw,lab,lab2⟩:=by kernel_rfl
theorem I8(kind rd e0 e1 e2 e3 e4 e5 e6 e7 e8 e9 tag mac ip:Int)(hip:Bool)(pip plen gw lab lab2:Int):opn κc Tryz.f106 [Nl.v ⟨kind,rd,e0,e1,e2,e3,e4,e5,e6,e7,e8,e9,tag,mac,ip,hip,pip,plen,gw,lab,lab2⟩,.iface 219 (.agg [])] []=wM hO ⟨kind,rd,e0,e1,e2,e3,e4,e5,e6,e7,e8,e9,tag,mac,ip,hip,pip,plen,gw,lab,lab2⟩:=by kernel_rfl
def valOf(t:Nat):Option (Nl->List SV):=bif Nat.beq t 215 then some g8 else bif Nat.beq t 216 then some bI else bif Nat.beq t 217 then some g9 else bif Nat.beq t 218 then some hJ else bif Nat.beq t 219 then some hO else none
noncomputable def ph:ag:=fun args H=>match args,H with
 | [x,.iface t (.agg [])],[]=>match wo x,valOf t with
  | some n,some val=>.ite (decide (OkP n)) (.ret (.qs 0 1 0 (gz val n).length) [(0,some (.seq 5 (gz val n)))]) .fail
  | _,_=>.fail
 | _,_=>.fail
theorem Cp      :Known Tryz.prog 106 ph      :=(am        cOk Tryz.func106 rfl).weak (by
 intro args H v ups h
 unfold ph at h
 split at h
 . rename_i x t
   split at h
   . rename_i n val hn hv
     rw[aa,cond_eq_ite]at h
     split at h
     . rename_i hc
       have hok:OkP n:=by simpa using hc
       rw[oN hn]
       obtain⟨kind,rd,e0,e1,e2,e3,e4,e5,e6,e7,e8,e9,tag,mac,ip,hip,pip,plen,gw,lab,lab2⟩:=n
       obtain⟨l1,l2,l3,l4,l5⟩:=yc ⟨kind,rd,e0,e1,e2,e3,e4,e5,e6,e7,e8,e9,tag,mac,ip,hip,pip,plen,gw,lab,lab2⟩
       unfold valOf at hv
       cases h1:Nat.beq t 215 with
       | true=>rw[h1]at hv;cases hv;cases nE h1;rw[I4,lw l1 hok];exact h
       | false=>
       cases h2:Nat.beq t 216 with
       | true=>rw[h1,h2]at hv;cases hv;cases nE h2;rw[I5,lw l2 hok];exact h
       | false=>
       cases h3:Nat.beq t 217 with
       | true=>rw[h1,h2,h3]at hv;cases hv;cases nE h3;rw[I6,lw l3 hok];exact h
       | false=>
       cases h4:Nat.beq t 218 with
       | true=>rw[h1,h2,h3,h4]at hv;cases hv;cases nE h4;rw[I7,lw l4 hok];exact h
       | false=>
       cases h5:Nat.beq t 219 with
       | true=>rw[h1,h2,h3,h4,h5]at hv;cases hv;cases nE h5;rw[I8,lw l5 hok];exact h
       | false=>rw[h1,h2,h3,h4,h5]at hv;cases hv
     . cases h
   . cases h
 . cases h)
def nb(n:Nl):List SV:=bif n.kind==1 then gz g8 n else bif n.kind==2 then gz bI n else bif n.kind==3 then gz g9 n else bif n.kind==4 then gz hJ n else gz hO n
noncomputable def lx:ag:=fun args H=>match args,H with
 | [x],[]=>match wo x with
  | some n=>.ite (decide (chk n=0/\OkP n)) (.ret (.tup [.qs 0 1 0 (nb n).length,.int .i64 0]) [(0,some (.seq 5 (nb n)))]) .fail
  | none=>.fail
 | _,_=>.fail
theorem uR         {args:List SV}{H:HpL}{v:SV}{ups:List (Nat × Option Chunk)}(h:ac   (lx       args H)=some (v,ups)):
  ∃ n:Nl,chk n=0/\OkP n/\args=[n.v]/\H=[]/\v= .tup [.qs 0 1 0 (nb n).length,.int .i64 0]/\ups=[(0,some (.seq 5 (nb n)))]:=by
 unfold lx at h
 split at h
 . rename_i x
   split at h
   . rename_i n hn
     rw[aa,cond_eq_ite]at h
     split at h
     . rename_i hc
       have hc2:chk n=0/\OkP n:=by simpa using hc
       cases h
       exact⟨n,hc2.1,hc2.2,by rw[oN hn],rfl,rfl,rfl⟩
     . cases h
   . cases h
 . cases h
theorem Cq{n:Nl}(h:chk n=0):n.kind=1\/n.kind=2\/n.kind=3\/n.kind=4\/n.kind=5:=by
 by_cases hk:1<=n.kind/\n.kind<=5
 . omega
 . exfalso
   have hc:(decide (n.kind < 1)||decide (n.kind > 5))=true:=by
    simp only[Bool.or_eq_true,decide_eq_true_eq];omega
   unfold chk at h
   rw[hc]at h
   cases h
theorem MH(n:Int)(k:Nat):IntKind.u8.wrap (n.fdiv (256 ^ k))=n / 256 ^ k % 256:=by
 rw[iS,Int.fdiv_eq_ediv_of_nonneg _ (Int.pow_nonneg (by decide))]
def DD(k:Nat):Bool:=decide (k<=9223372036854775807)&&decide (k * 1<=140737488355328)
theorem GM{k:Nat}(h:k<=1000000):DD k=true:=by
 unfold DD
 rw[dT0 (by omega),dT0 (by omega)];rfl
def ic(n:Int)(nw:Nat)(ups:List (Nat × Option Chunk)):Nat->Nat->List SV->CTree
 | 0,m,es=>.ret (.qs nw 1 0 m) (ups++[(nw,some (.seq 5 es))])
 | k+1,m,es=>bif decide (m=es.length)then bif DD (es.length+1)then ic n nw ups k (es.length+1) (es++[.int .u8 (IntKind.u8.wrap (n.fdiv (256 ^ k)))])else .fail else .fail
theorem cB(n:Int)(nw:Nat)(ups:List (Nat × Option Chunk)):∀ (k:Nat) (es:List SV),es.length+k<=1000000->ic n nw ups k es.length es= .ret (.qs nw 1 0 (es.length+k)) (ups++[(nw,some (.seq 5 (es++be n k)))])
 | 0,es,_=>by simp[ic,be]
 | k+1,es,h=>by
  rw[ic,dT0 rfl,GM (by omega),MH]
  have:=cB n nw ups k (es++[.int .u8 (n / 256 ^ k % 256)]) (by simp;omega)
  rw[lA0]at this
  rw[cT,cT]
  refine this.trans ?_
  simp[be,Nat.add_assoc,Nat.add_comm 1 k]
theorem MI(n:Int):opn (tbl []) Tryz.f143 [.nils,.int .u64 n,.int .i64 2] []=ic n 0 [] 2 0 []:=by kernel_rfl
theorem MJ(n:Int)(m:Nat)(es:List SV):opn (tbl []) Tryz.f143 [.qs 0 1 0 m,.int .u64 n,.int .i64 2] [(0,.seq 5 es)]=ic n 1 [(0,none)] 2 m es:=by kernel_rfl
theorem MK(n a b:Int):opn (tbl []) Tryz.f143 [.sl 0 1 0 2,.int .u64 n,.int .i64 2] [(0,.cells 5 [.int .u8 a,.int .u8 b])]=ic n 1 [(0,none)] 2 2 [.int .u8 a,.int .u8 b]:=by kernel_rfl
theorem ML(n:Int):opn (tbl []) Tryz.f143 [.nils,.int .u64 n,.int .i64 3] []=ic n 0 [] 3 0 []:=by kernel_rfl
theorem MM(n:Int)(m:Nat)(es:List SV):opn (tbl []) Tryz.f143 [.qs 0 1 0 m,.int .u64 n,.int .i64 3] [(0,.seq 5 es)]=ic n 1 [(0,none)] 3 m es:=by kernel_rfl
theorem MN(n a b:Int):opn (tbl []) Tryz.f143 [.sl 0 1 0 2,.int .u64 n,.int .i64 3] [(0,.cells 5 [.int .u8 a,.int .u8 b])]=ic n 1 [(0,none)] 3 2 [.int .u8 a,.int .u8 b]:=by kernel_rfl
theorem MO(n:Int):opn (tbl []) Tryz.f143 [.nils,.int .u64 n,.int .i64 4] []=ic n 0 [] 4 0 []:=by kernel_rfl
theorem MP(n:Int)(m:Nat)(es:List SV):opn (tbl []) Tryz.f143 [.qs 0 1 0 m,.int .u64 n,.int .i64 4] [(0,.seq 5 es)]=ic n 1 [(0,none)] 4 m es:=by kernel_rfl
theorem MQ(n a b:Int):opn (tbl []) Tryz.f143 [.sl 0 1 0 2,.int .u64 n,.int .i64 4] [(0,.cells 5 [.int .u8 a,.int .u8 b])]=ic n 1 [(0,none)] 4 2 [.int .u8 a,.int .u8 b]:=by kernel_rfl
theorem MR(n:Int):opn (tbl []) Tryz.f143 [.nils,.int .u64 n,.int .i64 6] []=ic n 0 [] 6 0 []:=by kernel_rfl
theorem MS(n:Int)(m:Nat)(es:List SV):opn (tbl []) Tryz.f143 [.qs 0 1 0 m,.int .u64 n,.int .i64 6] [(0,.seq 5 es)]=ic n 1 [(0,none)] 6 m es:=by kernel_rfl
theorem MT(n a b:Int):opn (tbl []) Tryz.f143 [.sl 0 1 0 2,.int .u64 n,.int .i64 6] [(0,.cells 5 [.int .u8 a,.int .u8 b])]=ic n 1 [(0,none)] 6 2 [.int .u8 a,.int .u8 b]:=by kernel_rfl
theorem MU(n:Int):opn (tbl []) Tryz.f143 [.nils,.int .u64 n,.int .i64 8] []=ic n 0 [] 8 0 []:=by kernel_rfl
theorem MV(n:Int)(m:Nat)(es:List SV):opn (tbl []) Tryz.f143 [.qs 0 1 0 m,.int .u64 n,.int .i64 8] [(0,.seq 5 es)]=ic n 1 [(0,none)] 8 m es:=by kernel_rfl
theorem MW(n a b:Int):opn (tbl []) Tryz.f143 [.sl 0 1 0 2,.int .u64 n,.int .i64 8] [(0,.cells 5 [.int .u8 a,.int .u8 b])]=ic n 1 [(0,none)] 8 2 [.int .u8 a,.int .u8 b]:=by kernel_rfl
def jo(n:Int)(k:Nat)(x:SV)(H:HpL):CTree:=match x,H with
 | .nils,[]=>.ret (.qs 0 1 0 k) [(0,some (.seq 5 (be n k)))]
 | .qs 0 1 0 m,[(0,.seq 5 es)]=>.ite (decide (m=es.length/\es.length<=100000)) (.ret (.qs 1 1 0 (es.length+k)) [(0,none),(1,some (.seq 5 (es++be n k)))]) .fail
 | .sl 0 1 0 2,[(0,.cells 5 [.int .u8 a,.int .u8 b])]=>.ret (.qs 1 1 0 (2+k)) [(0,none),(1,some (.seq 5 ([.int .u8 a,.int .u8 b]++be n k)))]
 | _,_=>.fail
def xk:ag:=fun args H=>match args with
 | [x,.int .u64 n,.int .i64 k]=>.ite (k==2||k==3||k==4||k==6||k==8) (jo n k.toNat x H) .fail
 | _=>.fail
theorem JT    {n:Int}{x:SV}{H:HpL}{v:SV}{ups:List (Nat × Option Chunk)}(h:ac   (jo    n 2 x H)=some (v,ups)):ac   (opn (tbl []) Tryz.f143 [x,.int .u64 n,.int .i64 2] H)=some (v,ups):=by
 unfold jo at h
 split at h
 . rw[MI];rw[<- h];have:=cB n 0 [] 2 [] (by simp);simp only[List.length_nil,nA,Nat.zero_add]at this;rw[this]
 . rename_i m es
   rw[aa,cond_eq_ite]at h
   split at h
   . rename_i hc
     obtain⟨rfl,h2⟩:=of_decide_eq_true hc
     rw[MJ,cB n 1 _ 2 es (by omega)];exact h
   . cases h
 . rename_i a b
   rw[MK];rw[<- h];exact congrArg ac (cB n 1 [(0,none)] 2 [.int .u8 a,.int .u8 b] (by simp))
 . cases h
theorem JU    {n:Int}{x:SV}{H:HpL}{v:SV}{ups:List (Nat × Option Chunk)}(h:ac   (jo    n 3 x H)=some (v,ups)):ac   (opn (tbl []) Tryz.f143 [x,.int .u64 n,.int .i64 3] H)=some (v,ups):=by
 unfold jo at h
 split at h
 . rw[ML];rw[<- h];have:=cB n 0 [] 3 [] (by simp);simp only[List.length_nil,nA,Nat.zero_add]at this;rw[this]
 . rename_i m es
   rw[aa,cond_eq_ite]at h
   split at h
   . rename_i hc
     obtain⟨rfl,h2⟩:=of_decide_eq_true hc
     rw[MM,cB n 1 _ 3 es (by omega)];exact h
   . cases h
 . rename_i a b
   rw[MN];rw[<- h];exact congrArg ac (cB n 1 [(0,none)] 3 [.int .u8 a,.int .u8 b] (by simp))
 . cases h
theorem JV    {n:Int}{x:SV}{H:HpL}{v:SV}{ups:List (Nat × Option Chunk)}(h:ac   (jo    n 4 x H)=some (v,ups)):ac   (opn (tbl []) Tryz.f143 [x,.int .u64 n,.int .i64 4] H)=some (v,ups):=by
 unfold jo at h
 split at h
 . rw[MO];rw[<- h];have:=cB n 0 [] 4 [] (by simp);simp only[List.length_nil,nA,Nat.zero_add]at this;rw[this]
 . rename_i m es
   rw[aa,cond_eq_ite]at h
   split at h
   . rename_i hc
     obtain⟨rfl,h2⟩:=of_decide_eq_true hc
     rw[MP,cB n 1 _ 4 es (by omega)];exact h
   . cases h
 . rename_i a b
   rw[MQ];rw[<- h];exact congrArg ac (cB n 1 [(0,none)] 4 [.int .u8 a,.int .u8 b] (by simp))
 . cases h
theorem JW    {n:Int}{x:SV}{H:HpL}{v:SV}{ups:List (Nat × Option Chunk)}(h:ac   (jo    n 6 x H)=some (v,ups)):ac   (opn (tbl []) Tryz.f143 [x,.int .u64 n,.int .i64 6] H)=some (v,ups):=by
 unfold jo at h
 split at h
 . rw[MR];rw[<- h];have:=cB n 0 [] 6 [] (by simp);simp only[List.length_nil,nA,Nat.zero_add]at this;rw[this]
 . rename_i m es
   rw[aa,cond_eq_ite]at h
   split at h
   . rename_i hc
     obtain⟨rfl,h2⟩:=of_decide_eq_true hc
     rw[MS,cB n 1 _ 6 es (by omega)];exact h
   . cases h
 . rename_i a b
   rw[MT];rw[<- h];exact congrArg ac (cB n 1 [(0,none)] 6 [.int .u8 a,.int .u8 b] (by simp))
 . cases h
theorem JX    {n:Int}{x:SV}{H:HpL}{v:SV}{ups:List (Nat × Option Chunk)}(h:ac   (jo    n 8 x H)=some (v,ups)):ac   (opn (tbl []) Tryz.f143 [x,.int .u64 n,.int .i64 8] H)=some (v,ups):=by
 unfold jo at h
 split at h
 . rw[MU];rw[<- h];have:=cB n 0 [] 8 [] (by simp);simp only[List.length_nil,nA,Nat.zero_add]at this;rw[this]
 . rename_i m es
   rw[aa,cond_eq_ite]at h
   split at h
   . rename_i hc
     obtain⟨rfl,h2⟩:=of_decide_eq_true hc
     rw[MV,cB n 1 _ 8 es (by omega)];exact h
   . cases h
 . rename_i a b
   rw[MW];rw[<- h];exact congrArg ac (cB n 1 [(0,none)] 8 [.int .u8 a,.int .u8 b] (by simp))
 . cases h
theorem OE  :Known Tryz.prog 143 xk    :=(am        ok0 Tryz.func143 rfl).weak (by
 intro args H v ups h
 unfold xk at h
 split at h
 . rename_i x n k
   rw[aa,cond_eq_ite]at h
   split at h
   . rename_i hc
     simp only[Bool.or_eq_true,beq_iff_eq]at hc
     obtain(((rfl | rfl) | rfl) | rfl) | rfl:=hc
     . exact JT h
     . exact JU h
     . exact JV h
     . exact JW h
     . exact JX h
   . cases h
 . cases h)
end Go.Proofs.YtnlmhpancboddaaGreat
