/- Routes: their bytes by the reference. -/
import Derived.Test.YtnlmhpancboddaaGreatPart4
import Derived.Test.YtnlmhpancboddaaGreatMachine6
set_option linter.unusedVariables false
set_option linter.unusedSimpArgs false
namespace Go.Proofs.YtnlmhpancboddaaGreat
open Go.Am
set_option maxRecDepth 100000
noncomputable abbrev κe:=tbl [(142,gj),(143,xk)]
theorem eOk:KOk Tryz.prog κe:=af Bq (af OE ok0)
theorem C8(rd e0 e1 e2 e3 e4 e5 e6 e7 e8 e9 tag mac ip:Int)(hip:Bool)(pip plen gw lab lab2:Int):opn κe Tryz.f138 [Nl.v ⟨1,rd,e0,e1,e2,e3,e4,e5,e6,e7,e8,e9,tag,mac,ip,hip,pip,plen,gw,lab,lab2⟩] []=
 bif chk ⟨1,rd,e0,e1,e2,e3,e4,e5,e6,e7,e8,e9,tag,mac,ip,hip,pip,plen,gw,lab,lab2⟩!=0 then .ret (.tup [.nils,.int .i64 (chk ⟨1,rd,e0,e1,e2,e3,e4,e5,e6,e7,e8,e9,tag,mac,ip,hip,pip,plen,gw,lab,lab2⟩)]) []else .ret (.tup [.qs 0 1 0 27,.int .i64 0]) [(0,some (.seq 5 ([.int .u8 1,.int .u8 25]++(be rd 8++[.int .u8 e0,.int .u8 e1,.int .u8 e2,.int .u8 e3,.int .u8 e4,.int .u8 e5,.int .u8 e6,.int .u8 e7,.int .u8 e8,.int .u8 e9]++be (IntKind.u64.wrap tag) 4++be (IntKind.u64.wrap lab) 3))))]:=by kernel_rfl
theorem Ge(rd e0 e1 e2 e3 e4 e5 e6 e7 e8 e9 tag mac ip:Int)(hip:Bool)(pip plen gw lab lab2:Int)(hc:chk ⟨1,rd,e0,e1,e2,e3,e4,e5,e6,e7,e8,e9,tag,mac,ip,hip,pip,plen,gw,lab,lab2⟩=0)(hok:OkP ⟨1,rd,e0,e1,e2,e3,e4,e5,e6,e7,e8,e9,tag,mac,ip,hip,pip,plen,gw,lab,lab2⟩):ac (opn κe Tryz.f138 [Nl.v ⟨1,rd,e0,e1,e2,e3,e4,e5,e6,e7,e8,e9,tag,mac,ip,hip,pip,plen,gw,lab,lab2⟩] [])=some (.tup [.qs 0 1 0 (nb ⟨1,rd,e0,e1,e2,e3,e4,e5,e6,e7,e8,e9,tag,mac,ip,hip,pip,plen,gw,lab,lab2⟩).length,.int .i64 0],[(0,some (.seq 5 (nb ⟨1,rd,e0,e1,e2,e3,e4,e5,e6,e7,e8,e9,tag,mac,ip,hip,pip,plen,gw,lab,lab2⟩)))]):=by
 obtain⟨rd0,rd1,tag0,tag1,mac0,mac1,ip0,ip1,pip0,pip1,pl0,pl1,gw0,gw1,lab0,lab1,lac0,lac1⟩:=hok
 simp only at rd0 rd1 tag0 tag1 mac0 mac1 ip0 ip1 pip0 pip1 pl0 pl1 gw0 gw1 lab0 lab1 lac0 lac1
 have w1:=aR tag0 (by omega)
 have w2:=aR ip0 (by omega)
 have w3:=aR pip0 (by omega)
 have w4:=iS plen
 have w5:=aR gw0 (by omega)
 have w6:=aR lab0 (by omega)
 have w7:=aR lac0 (by omega)
 have w8:plen / 256 ^ 0 % 256=plen % 256:=by rw[Int.pow_zero,Int.ediv_one]
 rw[C8,hc]
 simp only[w1,w6]
 rfl
theorem pz(rd e0 e1 e2 e3 e4 e5 e6 e7 e8 e9 tag mac ip:Int)(pip plen gw lab lab2:Int):opn κe Tryz.f138 [Nl.v ⟨2,rd,e0,e1,e2,e3,e4,e5,e6,e7,e8,e9,tag,mac,ip,true,pip,plen,gw,lab,lab2⟩] []=
 bif chk ⟨2,rd,e0,e1,e2,e3,e4,e5,e6,e7,e8,e9,tag,mac,ip,true,pip,plen,gw,lab,lab2⟩!=0 then .ret (.tup [.nils,.int .i64 (chk ⟨2,rd,e0,e1,e2,e3,e4,e5,e6,e7,e8,e9,tag,mac,ip,true,pip,plen,gw,lab,lab2⟩)]) []else bif lab2 !=0 then .ret (.tup [.qs 0 1 0 42,.int .i64 0]) [(0,some (.seq 5 ([.int .u8 2,.int .u8 40]++(be rd 8++[.int .u8 e0,.int .u8 e1,.int .u8 e2,.int .u8 e3,.int .u8 e4,.int .u8 e5,.int .u8 e6,.int .u8 e7,.int .u8 e8,.int .u8 e9]++be (IntKind.u64.wrap tag) 4++be 48 1++be mac 6++be 32 1++be (IntKind.u64.wrap ip) 4++be (IntKind.u64.wrap lab) 3++be (IntKind.u64.wrap lab2) 3))))]else .ret (.tup [.qs 0 1 0 39,.int .i64 0]) [(0,some (.seq 5 ([.int .u8 2,.int .u8 37]++(be rd 8++[.int .u8 e0,.int .u8 e1,.int .u8 e2,.int .u8 e3,.int .u8 e4,.int .u8 e5,.int .u8 e6,.int .u8 e7,.int .u8 e8,.int .u8 e9]++be (IntKind.u64.wrap tag) 4++be 48 1++be mac 6++be 32 1++be (IntKind.u64.wrap ip) 4++be (IntKind.u64.wrap lab) 3))))]:=by kernel_rfl
theorem vi(rd e0 e1 e2 e3 e4 e5 e6 e7 e8 e9 tag mac ip:Int)(pip plen gw lab lab2:Int)(hc:chk ⟨2,rd,e0,e1,e2,e3,e4,e5,e6,e7,e8,e9,tag,mac,ip,true,pip,plen,gw,lab,lab2⟩=0)(hok:OkP ⟨2,rd,e0,e1,e2,e3,e4,e5,e6,e7,e8,e9,tag,mac,ip,true,pip,plen,gw,lab,lab2⟩):ac (opn κe Tryz.f138 [Nl.v ⟨2,rd,e0,e1,e2,e3,e4,e5,e6,e7,e8,e9,tag,mac,ip,true,pip,plen,gw,lab,lab2⟩] [])=some (.tup [.qs 0 1 0 (nb ⟨2,rd,e0,e1,e2,e3,e4,e5,e6,e7,e8,e9,tag,mac,ip,true,pip,plen,gw,lab,lab2⟩).length,.int .i64 0],[(0,some (.seq 5 (nb ⟨2,rd,e0,e1,e2,e3,e4,e5,e6,e7,e8,e9,tag,mac,ip,true,pip,plen,gw,lab,lab2⟩)))]):=by
 obtain⟨rd0,rd1,tag0,tag1,mac0,mac1,ip0,ip1,pip0,pip1,pl0,pl1,gw0,gw1,lab0,lab1,lac0,lac1⟩:=hok
 simp only at rd0 rd1 tag0 tag1 mac0 mac1 ip0 ip1 pip0 pip1 pl0 pl1 gw0 gw1 lab0 lab1 lac0 lac1
 have w1:=aR tag0 (by omega)
 have w2:=aR ip0 (by omega)
 have w3:=aR pip0 (by omega)
 have w4:=iS plen
 have w5:=aR gw0 (by omega)
 have w6:=aR lab0 (by omega)
 have w7:=aR lac0 (by omega)
 have w8:plen / 256 ^ 0 % 256=plen % 256:=by rw[Int.pow_zero,Int.ediv_one]
 rw[pz,hc]
 simp only[w1,w2,w6,w7]
 cases hl:(lab2 !=0)with
 | true=>simp only[nb,gz,bI,hl];rfl
 | false=>simp only[nb,gz,bI,hl];rfl
theorem nt(rd e0 e1 e2 e3 e4 e5 e6 e7 e8 e9 tag mac ip:Int)(pip plen gw lab lab2:Int):opn κe Tryz.f138 [Nl.v ⟨2,rd,e0,e1,e2,e3,e4,e5,e6,e7,e8,e9,tag,mac,ip,false,pip,plen,gw,lab,lab2⟩] []=
 bif chk ⟨2,rd,e0,e1,e2,e3,e4,e5,e6,e7,e8,e9,tag,mac,ip,false,pip,plen,gw,lab,lab2⟩!=0 then .ret (.tup [.nils,.int .i64 (chk ⟨2,rd,e0,e1,e2,e3,e4,e5,e6,e7,e8,e9,tag,mac,ip,false,pip,plen,gw,lab,lab2⟩)]) []else bif lab2 !=0 then .ret (.tup [.qs 0 1 0 38,.int .i64 0]) [(0,some (.seq 5 ([.int .u8 2,.int .u8 36]++(be rd 8++[.int .u8 e0,.int .u8 e1,.int .u8 e2,.int .u8 e3,.int .u8 e4,.int .u8 e5,.int .u8 e6,.int .u8 e7,.int .u8 e8,.int .u8 e9]++be (IntKind.u64.wrap tag) 4++be 48 1++be mac 6++be 0 1++be (IntKind.u64.wrap lab) 3++be (IntKind.u64.wrap lab2) 3))))]else .ret (.tup [.qs 0 1 0 35,.int .i64 0]) [(0,some (.seq 5 ([.int .u8 2,.int .u8 33]++(be rd 8++[.int .u8 e0,.int .u8 e1,.int .u8 e2,.int .u8 e3,.int .u8 e4,.int .u8 e5,.int .u8 e6,.int .u8 e7,.int .u8 e8,.int .u8 e9]++be (IntKind.u64.wrap tag) 4++be 48 1++be mac 6++be 0 1++be (IntKind.u64.wrap lab) 3))))]:=by kernel_rfl
theorem s8(rd e0 e1 e2 e3 e4 e5 e6 e7 e8 e9 tag mac ip:Int)(pip plen gw lab lab2:Int)(hc:chk ⟨2,rd,e0,e1,e2,e3,e4,e5,e6,e7,e8,e9,tag,mac,ip,false,pip,plen,gw,lab,lab2⟩=0)(hok:OkP ⟨2,rd,e0,e1,e2,e3,e4,e5,e6,e7,e8,e9,tag,mac,ip,false,pip,plen,gw,lab,lab2⟩):ac (opn κe Tryz.f138 [Nl.v ⟨2,rd,e0,e1,e2,e3,e4,e5,e6,e7,e8,e9,tag,mac,ip,false,pip,plen,gw,lab,lab2⟩] [])=some (.tup [.qs 0 1 0 (nb ⟨2,rd,e0,e1,e2,e3,e4,e5,e6,e7,e8,e9,tag,mac,ip,false,pip,plen,gw,lab,lab2⟩).length,.int .i64 0],[(0,some (.seq 5 (nb ⟨2,rd,e0,e1,e2,e3,e4,e5,e6,e7,e8,e9,tag,mac,ip,false,pip,plen,gw,lab,lab2⟩)))]):=by
 obtain⟨rd0,rd1,tag0,tag1,mac0,mac1,ip0,ip1,pip0,pip1,pl0,pl1,gw0,gw1,lab0,lab1,lac0,lac1⟩:=hok
 simp only at rd0 rd1 tag0 tag1 mac0 mac1 ip0 ip1 pip0 pip1 pl0 pl1 gw0 gw1 lab0 lab1 lac0 lac1
 have w1:=aR tag0 (by omega)
 have w2:=aR ip0 (by omega)
 have w3:=aR pip0 (by omega)
 have w4:=iS plen
 have w5:=aR gw0 (by omega)
 have w6:=aR lab0 (by omega)
 have w7:=aR lac0 (by omega)
 have w8:plen / 256 ^ 0 % 256=plen % 256:=by rw[Int.pow_zero,Int.ediv_one]
 rw[nt,hc]
 simp only[w1,w6,w7]
 cases hl:(lab2 !=0)with
 | true=>simp only[nb,gz,bI,hl];rfl
 | false=>simp only[nb,gz,bI,hl];rfl
theorem C9(rd e0 e1 e2 e3 e4 e5 e6 e7 e8 e9 tag mac ip:Int)(hip:Bool)(pip plen gw lab lab2:Int):opn κe Tryz.f138 [Nl.v ⟨3,rd,e0,e1,e2,e3,e4,e5,e6,e7,e8,e9,tag,mac,ip,hip,pip,plen,gw,lab,lab2⟩] []=
 bif chk ⟨3,rd,e0,e1,e2,e3,e4,e5,e6,e7,e8,e9,tag,mac,ip,hip,pip,plen,gw,lab,lab2⟩!=0 then .ret (.tup [.nils,.int .i64 (chk ⟨3,rd,e0,e1,e2,e3,e4,e5,e6,e7,e8,e9,tag,mac,ip,hip,pip,plen,gw,lab,lab2⟩)]) []else .ret (.tup [.qs 0 1 0 19,.int .i64 0]) [(0,some (.seq 5 ([.int .u8 3,.int .u8 17]++(be rd 8++be (IntKind.u64.wrap tag) 4++be 32 1++be (IntKind.u64.wrap ip) 4))))]:=by kernel_rfl
theorem Gf(rd e0 e1 e2 e3 e4 e5 e6 e7 e8 e9 tag mac ip:Int)(hip:Bool)(pip plen gw lab lab2:Int)(hc:chk ⟨3,rd,e0,e1,e2,e3,e4,e5,e6,e7,e8,e9,tag,mac,ip,hip,pip,plen,gw,lab,lab2⟩=0)(hok:OkP ⟨3,rd,e0,e1,e2,e3,e4,e5,e6,e7,e8,e9,tag,mac,ip,hip,pip,plen,gw,lab,lab2⟩):ac (opn κe Tryz.f138 [Nl.v ⟨3,rd,e0,e1,e2,e3,e4,e5,e6,e7,e8,e9,tag,mac,ip,hip,pip,plen,gw,lab,lab2⟩] [])=some (.tup [.qs 0 1 0 (nb ⟨3,rd,e0,e1,e2,e3,e4,e5,e6,e7,e8,e9,tag,mac,ip,hip,pip,plen,gw,lab,lab2⟩).length,.int .i64 0],[(0,some (.seq 5 (nb ⟨3,rd,e0,e1,e2,e3,e4,e5,e6,e7,e8,e9,tag,mac,ip,hip,pip,plen,gw,lab,lab2⟩)))]):=by
 obtain⟨rd0,rd1,tag0,tag1,mac0,mac1,ip0,ip1,pip0,pip1,pl0,pl1,gw0,gw1,lab0,lab1,lac0,lac1⟩:=hok
 simp only at rd0 rd1 tag0 tag1 mac0 mac1 ip0 ip1 pip0 pip1 pl0 pl1 gw0 gw1 lab0 lab1 lac0 lac1
 have w1:=aR tag0 (by omega)
 have w2:=aR ip0 (by omega)
 have w3:=aR pip0 (by omega)
 have w4:=iS plen
 have w5:=aR gw0 (by omega)
 have w6:=aR lab0 (by omega)
 have w7:=aR lac0 (by omega)
 have w8:plen / 256 ^ 0 % 256=plen % 256:=by rw[Int.pow_zero,Int.ediv_one]
 rw[C9,hc]
 simp only[w1,w2]
 rfl
theorem Da(rd e0 e1 e2 e3 e4 e5 e6 e7 e8 e9 tag mac ip:Int)(hip:Bool)(pip plen gw lab lab2:Int):opn κe Tryz.f138 [Nl.v ⟨4,rd,e0,e1,e2,e3,e4,e5,e6,e7,e8,e9,tag,mac,ip,hip,pip,plen,gw,lab,lab2⟩] []=
 bif chk ⟨4,rd,e0,e1,e2,e3,e4,e5,e6,e7,e8,e9,tag,mac,ip,hip,pip,plen,gw,lab,lab2⟩!=0 then .ret (.tup [.nils,.int .i64 (chk ⟨4,rd,e0,e1,e2,e3,e4,e5,e6,e7,e8,e9,tag,mac,ip,hip,pip,plen,gw,lab,lab2⟩)]) []else .ret (.tup [.qs 0 1 0 25,.int .i64 0]) [(0,some (.seq 5 ([.int .u8 4,.int .u8 23]++(be rd 8++[.int .u8 e0,.int .u8 e1,.int .u8 e2,.int .u8 e3,.int .u8 e4,.int .u8 e5,.int .u8 e6,.int .u8 e7,.int .u8 e8,.int .u8 e9]++be 32 1++be (IntKind.u64.wrap ip) 4))))]:=by kernel_rfl
theorem Gg(rd e0 e1 e2 e3 e4 e5 e6 e7 e8 e9 tag mac ip:Int)(hip:Bool)(pip plen gw lab lab2:Int)(hc:chk ⟨4,rd,e0,e1,e2,e3,e4,e5,e6,e7,e8,e9,tag,mac,ip,hip,pip,plen,gw,lab,lab2⟩=0)(hok:OkP ⟨4,rd,e0,e1,e2,e3,e4,e5,e6,e7,e8,e9,tag,mac,ip,hip,pip,plen,gw,lab,lab2⟩):ac (opn κe Tryz.f138 [Nl.v ⟨4,rd,e0,e1,e2,e3,e4,e5,e6,e7,e8,e9,tag,mac,ip,hip,pip,plen,gw,lab,lab2⟩] [])=some (.tup [.qs 0 1 0 (nb ⟨4,rd,e0,e1,e2,e3,e4,e5,e6,e7,e8,e9,tag,mac,ip,hip,pip,plen,gw,lab,lab2⟩).length,.int .i64 0],[(0,some (.seq 5 (nb ⟨4,rd,e0,e1,e2,e3,e4,e5,e6,e7,e8,e9,tag,mac,ip,hip,pip,plen,gw,lab,lab2⟩)))]):=by
 obtain⟨rd0,rd1,tag0,tag1,mac0,mac1,ip0,ip1,pip0,pip1,pl0,pl1,gw0,gw1,lab0,lab1,lac0,lac1⟩:=hok
 simp only at rd0 rd1 tag0 tag1 mac0 mac1 ip0 ip1 pip0 pip1 pl0 pl1 gw0 gw1 lab0 lab1 lac0 lac1
 have w1:=aR tag0 (by omega)
 have w2:=aR ip0 (by omega)
 have w3:=aR pip0 (by omega)
 have w4:=iS plen
 have w5:=aR gw0 (by omega)
 have w6:=aR lab0 (by omega)
 have w7:=aR lac0 (by omega)
 have w8:plen / 256 ^ 0 % 256=plen % 256:=by rw[Int.pow_zero,Int.ediv_one]
 rw[Da,hc]
 simp only[w2]
 rfl
theorem Db(rd e0 e1 e2 e3 e4 e5 e6 e7 e8 e9 tag mac ip:Int)(hip:Bool)(pip plen gw lab lab2:Int):opn κe Tryz.f138 [Nl.v ⟨5,rd,e0,e1,e2,e3,e4,e5,e6,e7,e8,e9,tag,mac,ip,hip,pip,plen,gw,lab,lab2⟩] []=
 bif chk ⟨5,rd,e0,e1,e2,e3,e4,e5,e6,e7,e8,e9,tag,mac,ip,hip,pip,plen,gw,lab,lab2⟩!=0 then .ret (.tup [.nils,.int .i64 (chk ⟨5,rd,e0,e1,e2,e3,e4,e5,e6,e7,e8,e9,tag,mac,ip,hip,pip,plen,gw,lab,lab2⟩)]) []else .ret (.tup [.qs 0 1 0 36,.int .i64 0]) [(0,some (.seq 5 ([.int .u8 5,.int .u8 34]++(be rd 8++[.int .u8 e0,.int .u8 e1,.int .u8 e2,.int .u8 e3,.int .u8 e4,.int .u8 e5,.int .u8 e6,.int .u8 e7,.int .u8 e8,.int .u8 e9]++be (IntKind.u64.wrap tag) 4++[.int .u8 (IntKind.u8.wrap plen)]++be (IntKind.u64.wrap pip) 4++be (IntKind.u64.wrap gw) 4++be (IntKind.u64.wrap lab) 3))))]:=by kernel_rfl
theorem Gh(rd e0 e1 e2 e3 e4 e5 e6 e7 e8 e9 tag mac ip:Int)(hip:Bool)(pip plen gw lab lab2:Int)(hc:chk ⟨5,rd,e0,e1,e2,e3,e4,e5,e6,e7,e8,e9,tag,mac,ip,hip,pip,plen,gw,lab,lab2⟩=0)(hok:OkP ⟨5,rd,e0,e1,e2,e3,e4,e5,e6,e7,e8,e9,tag,mac,ip,hip,pip,plen,gw,lab,lab2⟩):ac (opn κe Tryz.f138 [Nl.v ⟨5,rd,e0,e1,e2,e3,e4,e5,e6,e7,e8,e9,tag,mac,ip,hip,pip,plen,gw,lab,lab2⟩] [])=some (.tup [.qs 0 1 0 (nb ⟨5,rd,e0,e1,e2,e3,e4,e5,e6,e7,e8,e9,tag,mac,ip,hip,pip,plen,gw,lab,lab2⟩).length,.int .i64 0],[(0,some (.seq 5 (nb ⟨5,rd,e0,e1,e2,e3,e4,e5,e6,e7,e8,e9,tag,mac,ip,hip,pip,plen,gw,lab,lab2⟩)))]):=by
 obtain⟨rd0,rd1,tag0,tag1,mac0,mac1,ip0,ip1,pip0,pip1,pl0,pl1,gw0,gw1,lab0,lab1,lac0,lac1⟩:=hok
 simp only at rd0 rd1 tag0 tag1 mac0 mac1 ip0 ip1 pip0 pip1 pl0 pl1 gw0 gw1 lab0 lab1 lac0 lac1
 have w1:=aR tag0 (by omega)
 have w2:=aR ip0 (by omega)
 have w3:=aR pip0 (by omega)
 have w4:=iS plen
 have w5:=aR gw0 (by omega)
 have w6:=aR lab0 (by omega)
 have w7:=aR lac0 (by omega)
 have w8:plen / 256 ^ 0 % 256=plen % 256:=by rw[Int.pow_zero,Int.ediv_one]
 rw[Db,hc]
 simp only[w1,w3,w4,w5,w6]
 rw[<- w8];rfl
theorem rbytes_k:Known Tryz.prog 138 lx:=(am eOk Tryz.func138 rfl).weak (by
 intro args H v ups h
 obtain⟨n,hc,hok,rfl,rfl,rfl,rfl⟩:=uR h
 obtain⟨kind,rd,e0,e1,e2,e3,e4,e5,e6,e7,e8,e9,tag,mac,ip,hip,pip,plen,gw,lab,lab2⟩:=n
 obtain hk | hk | hk | hk | hk:=Cq hc <;> cases hk
 . exact Ge _ _ _ _ _ _ _ _ _ _ _ _ _ _ _ _ _ _ _ _ hc hok
 . cases hip with
   | true=>exact vi _ _ _ _ _ _ _ _ _ _ _ _ _ _ _ _ _ _ _ hc hok
   | false=>exact s8 _ _ _ _ _ _ _ _ _ _ _ _ _ _ _ _ _ _ _ hc hok
 . exact Gf _ _ _ _ _ _ _ _ _ _ _ _ _ _ _ _ _ _ _ _ hc hok
 . exact Gg _ _ _ _ _ _ _ _ _ _ _ _ _ _ _ _ _ _ _ _ hc hok
 . exact Gh _ _ _ _ _ _ _ _ _ _ _ _ _ _ _ _ _ _ _ _ hc hok)
noncomputable def dec(p:Prop):Bool:=(Classical.propDecidable p).decide
theorem dec_iff{p:Prop}:dec p=true↔p:=by unfold dec;exact @decide_eq_true_iff _ (Classical.propDecidable _)
def dg(es:List SV)(i:Nat):Int:=asI (es.getD i .junk)
def tkN(es:List SV)(s:Nat):Nat->Int
 | 0=>0
 | k+1=>tkN es s k * 256+dg es (s+k)
def mN(es:List SV):Prop:=∀ k:Nat,0<=dg es k/\dg es k<=255
theorem aX{es:List SV}(h:mN es)(s:Nat):∀ k,0<=tkN es s k/\tkN es s k < 256 ^ k
 | 0=>by simp[tkN]
 | k+1=>by
  obtain⟨h1,h2⟩:=aX h s k
  obtain⟨h3,h4⟩:=h (s+k)
  rw[tkN,Int.pow_succ]
  generalize(256:Int) ^ k=p at *
  omega
def JM(acc x:Int):Int:=IntKind.u64.wrap ((BitVec.ofInt IntKind.u64.bits (IntKind.u64.wrap (acc * 2 ^ min (8:Int).toNat IntKind.u64.bits))||| BitVec.ofInt IntKind.u64.bits (IntKind.u64.wrap x)).toNat:Int)
noncomputable def Dp:Code:=Tryz.f69.body.getD .skip
noncomputable def c91:Code:=(bv 4 Dp).getD .skip
noncomputable def vu:ag
 | [.nils,.int .i64 n,.int .i64 i,.int .u64 a],[]=>.ite (decide (n<=i)) (.ret (.tup [.int .i64 2,.int .u64 a]) []) .fail
 | [.qs 0 1 l n,.int .i64 m,.int .i64 i,.int .u64 a],[(0,.seq 5 es)]=>.ite (dec (m=n/\0<=i/\i<=n/\n<=8/\l+n<=es.length/\mN es/\a=tkN es l i.toNat)) (.ret (.tup [.int .i64 2,.int .u64 (tkN es l n)]) []) .fail
 | _,_=>.fail
def JN:List SV->HpL->Nat
 | [_,.int _ n,.int _ i,_],_=>(n - i).toNat
 | _,_=>0
noncomputable def e91:LEnt:={ins:=[16,17,18,7],outs:=[7],keep:=[],size:=29,code:=c91,s:=vu}
noncomputable abbrev κ0:=bn Tryz.prog (tbl []) 300 5
noncomputable abbrev ι0:Nat->Bool:=fun g=>inl (tbl []) g&&bB Tryz.prog g
noncomputable def HU(N:Nat)(es:List SV)(l n:Nat)(m i a:Int):CTree:=
 bif Nat.blt (m - i).toNat N then bif dec (m=n/\0<=i/\i<=n/\n<=8/\l+n<=es.length/\mN es/\a=tkN es l i.toNat)then .ret (.tup [.int .i64 2,.int .u64 (tkN es l n)]) []else .fail else .fail
theorem GB(N:Nat)(es:List SV)(l n:Nat)(m i a:Int):av Tryz.prog κ0 ι0 (aF []) true 300 e91 {e91 with s:=ay JN vu N} c91 [.qs 0 1 l n,.int .i64 m,.int .i64 i,.int .u64 a] [(0,.seq 5 es)]=
 bif decide (i < m)then bif inB i n then bif decide (l+i.toNat < es.length)then HU N es l n m (IntKind.i64.wrap (i+1)) (JM a (dg es (l+i.toNat)))else .fail else .fail else .ret (.tup [.int .i64 2,.int .u64 a]) []:=by kernel_rfl
theorem Dq(N:Nat)(n i a:Int):av Tryz.prog κ0 ι0 (aF []) true 300 e91 {e91 with s:=ay JN vu N} c91 [.nils,.int .i64 n,.int .i64 i,.int .u64 a] []=bif decide (i < n)then .fail else .ret (.tup [.int .i64 2,.int .u64 a]) []:=by kernel_rfl
theorem mO{n:Int}(h0:0<=n)(h1:n < 18446744073709551616):IntKind.u64.wrap n=n:=by
 simp[IntKind.wrap,IntKind.bits,IntKind.signed];omega
theorem JO{a x:Int}(h0:0<=a)(h1:a < 72057594037927936)(h2:0<=x)(h3:x<=255):JM a x=a * 256+x:=by
 obtain⟨A,rfl⟩:=Int.eq_ofNat_of_zero_le h0
 obtain⟨X,rfl⟩:=Int.eq_ofNat_of_zero_le h2
 unfold JM
 rw[show(2:Int) ^ min (8:Int).toNat IntKind.u64.bits=256 by decide,mO (n:=(A:Int) * 256) (by omega) (by omega),mO (n:=(X:Int)) (by omega) (by omega)]
 have e1:BitVec.ofInt IntKind.u64.bits ((A:Int) * 256)=BitVec.ofNat 64 (A * 256):=by
  rw[show((A:Int) * 256)=((A * 256:Nat):Int)by omega];exact BitVec.ofInt_natCast 64 _
 have e2:BitVec.ofInt IntKind.u64.bits (X:Int)=BitVec.ofNat 64 X:=BitVec.ofInt_natCast 64 _
 rw[e1,e2]
 have e3:(BitVec.ofNat 64 (A * 256)||| BitVec.ofNat 64 X).toNat=A * 256+X:=by
  rw[BitVec.toNat_or,BitVec.toNat_ofNat,BitVec.toNat_ofNat,Nat.mod_eq_of_lt (by omega),Nat.mod_eq_of_lt (by omega)]
  have:=Nat.shiftLeft_add_eq_or_of_lt (a:=A) (b:=X) (i:=8) (by omega)
  rw[Nat.shiftLeft_eq]at this
  exact this.symm
 refine(congrArg (fun k:Nat=>IntKind.u64.wrap (k:Int)) e3).trans ?_
 rw[mO (by omega) (by omega)]
 omega
theorem AL       :aO     Tryz.prog e91:=eq         (κ:=κ0) (ι:=ι0) (T:=aF   []) (sp:=true) (fuel:=300) (c:=c91) (μ:=JN  ) (aL       ak       aq     ok0 300 5) aq     aE       (show aN    (aF   []) c91=c91 by kernel_rfl) (by
 intro N args H r hb hr0
 have hr':ac (vu args H)=some r:=hr0
 unfold vu at hr'
 split at hr'
 . rename_i n i a
   rw[aa]at hr'
   cases hc:decide (n<=i)with
   | false=>rw[hc]at hr';cases hr'
   | true=>
    rw[hc]at hr'
    rw[<- hr']
    have:=of_decide_eq_true hc
    refine(congrArg ac (Dq N n i a)).trans ?_
    rw[dF (by omega)];rfl
 . rename_i l n m i a es
   rw[aa]at hr'
   cases hc:dec (m=n/\0<=i/\i<=n/\n<=8/\l+n<=es.length/\mN es/\a=tkN es l i.toNat)with
   | false=>rw[hc]at hr';cases hr'
   | true=>
    rw[hc]at hr'
    obtain⟨rfl,h0,h1,h2,h3,h4,rfl⟩:=dec_iff.1 hc
    have hb':((n:Int) - i).toNat < N+1:=by
     have:Nat.blt ((n:Int) - i).toNat (N+1)=true:=hb
     rwa [bL]at this
    rw[<- hr']
    refine(congrArg ac (GB N es l n n i _)).trans ?_
    by_cases hlt:i < n
    . have hw:IntKind.i64.wrap (i+1)=i+1:=ai (by omega) (by omega)
      have hin:inB i n=true:=by unfold inB;simp;omega
      obtain⟨t0,t1⟩:=aX h4 l i.toNat
      obtain⟨d0,d1⟩:=h4 (l+i.toNat)
      have hp:(256:Int) ^ i.toNat<=72057594037927936:=by
       have:i.toNat<=7:=by omega
       calc (256:Int) ^ i.toNat<=256 ^ 7:=by exact_mod_cast Nat.pow_le_pow_right (by decide) this
        _=72057594037927936:=by decide
      have hbb:Nat.blt ((n:Int) - (i+1)).toNat N=true:=by rw[bL];omega
      rw[dT0 hlt,hin,dT0 (by omega),hw,JO t0 (by omega) d0 d1]
      simp only[cT]
      unfold HU
      rw[hbb,dec_iff.2 ⟨rfl,by omega,by omega,h2,h3,h4,by rw[show(i+1).toNat=i.toNat+1 by omega,tkN]⟩]
      rfl
    . have:i.toNat=n:=by omega
      rw[dF hlt,this];rfl
 . cases hr')
noncomputable abbrev T91:cu:=aF [("n",e91)]
noncomputable def m91:Code:=bx [(4, "n")] Dp
theorem JP:Tryz.f69.body=some (aN T91 m91):=by kernel_rfl
noncomputable abbrev HV:ag:=bE Tryz.prog κ0 ι0 T91 true 300 Tryz.f69 m91
structure Rd where
 (at_ end_ err fat:Int)
def rH(r:Rd)(n:Nat)(es:List SV):HpL:=[(0,.cells 157 [.int .i64 r.at_,.int .i64 r.end_,.qs 1 1 0 n,.int .i64 r.err,.int .i64 r.fat,.bool true]),(1,.seq 5 es)]
def rC(r:Rd)(n:Nat):Chunk:=.cells 157 [.int .i64 r.at_,.int .i64 r.end_,.qs 1 1 0 n,.int .i64 r.err,.int .i64 r.fat,.bool true]
def wA(r:Rd)(k:Int):Int:=IntKind.i64.wrap (r.at_+k)
def wB(r:Rd)(k:Int):Int:=IntKind.i64.wrap (wA r k - k)
def fX(r:Rd)(k:Int):Bool:=bif decide (k < 0)then true else decide (k > IntKind.i64.wrap (r.end_ - r.at_))
def wY(r:Rd)(k:Int)(n:Nat):Bool:=decide (0<=wB r k)&&decide (wB r k<=wA r k)&&decide (wA r k<=n)
theorem Mo(r:Rd)(n:Nat)(es:List SV)(k:Int):HV [.ptr 0 0,.int .i64 k] (rH r n es)=
 bif r.err !=0 then .ret (.int .u64 0) []else bif fX r k then(bif r.err==0 then .ret (.int .u64 0) [(0,some (rC ⟨r.at_,r.end_,4,r.at_⟩ n))]else .ret (.int .u64 0) [])else
 bif wY r k n then bif dec (((wA r k).toNat - (wB r k).toNat:Nat)=(((wA r k).toNat - (wB r k).toNat:Nat):Int)/\(0:Int)<=0/\(0:Int)<=(((wA r k).toNat - (wB r k).toNat:Nat):Int)/\(wA r k).toNat - (wB r k).toNat<=8/\0+(wB r k).toNat+((wA r k).toNat - (wB r k).toNat)<=es.length/\mN es/\(0:Int)=tkN es (0+(wB r k).toNat) (0:Int).toNat)then
  .ret (.int .u64 (tkN es (0+(wB r k).toNat) ((wA r k).toNat - (wB r k).toNat))) [(0,some (rC ⟨wA r k,r.end_,r.err,r.fat⟩ n))]else .fail else .fail:=by kernel_rfl
def Rd.few(r:Rd)(k:Nat):Bool:=decide ((k:Int) > r.end_ - r.at_)
def Rd.num(r:Rd)(es:List SV)(k:Nat):Int:=bif r.err !=0 then 0 else bif r.few k then 0 else tkN es r.at_.toNat k
def Rd.adv(r:Rd)(k:Nat):Rd:=⟨bif r.err !=0 then r.at_ else bif r.few k then r.at_ else r.at_+k,r.end_,bif r.err !=0 then r.err else bif r.few k then 4 else 0,bif r.err !=0 then r.fat else bif r.few k then r.at_ else r.fat⟩
structure OkRd (r:Rd) (es:List SV):Prop where
 a0:0<=r.at_
 a1:r.at_<=r.end_
 e1:r.end_<=es.length
 l:es.length<=1000000
 b:mN es
def rOf:HpL->Option (Rd × Nat × List SV)
 | [(0,.cells 157 [.int .i64 a,.int .i64 e,.qs 1 1 0 n,.int .i64 er,.int .i64 f,.bool true]),(1,.seq 5 es)]=>some (⟨a,e,er,f⟩,n,es)
 | _=>none
theorem nr{H:HpL}{r:Rd}{n:Nat}{es:List SV}(h:rOf H=some (r,n,es)):H=rH r n es:=by
 unfold rOf at h
 split at h
 . cases h;rfl
 . cases h
theorem OkRd.adv{r:Rd}{es:List SV}(h:OkRd r es)(k:Nat):OkRd (r.adv k) es:=by
 obtain⟨h0,h1,h2,h3,h4⟩:=h
 unfold Rd.adv Rd.few
 cases he:r.err !=0 with
 | true=>exact⟨h0,h1,h2,h3,h4⟩
 | false=>
  by_cases hk:(k:Int) > r.end_ - r.at_
  . rw[dT0 hk];exact⟨h0,h1,h2,h3,h4⟩
  . rw[dF hk];exact⟨by simp only[cF];omega,by simp only[cF];omega,h2,h3,h4⟩
theorem vf{r:Rd}{es:List SV}(h:OkRd r es){k:Nat}(hk:k<=1000000)(hs:r.few k=false):wA r k=r.at_+k/\wB r k=r.at_/\fX r k=false/\wY r k es.length=true:=by
 obtain⟨h0,h1,h2,h3,h4⟩:=h
 have hs':¬ (k:Int) > r.end_ - r.at_:=of_decide_eq_false hs
 have e1:wA r k=r.at_+k:=ai (by omega) (by omega)
 have e2:wB r k=r.at_:=by unfold wB;rw[e1];exact(ai (by omega) (by omega)).trans (by omega)
 refine⟨e1,e2,?_,?_⟩
 . unfold fX;rw[dF (by omega),ai (by omega) (by omega),dF hs'];rfl
 . unfold wY;rw[e1,e2,dT0 h0,dT0 (by omega),dT0 (by omega)];rfl
theorem vg{r:Rd}{es:List SV}(h:OkRd r es){k:Nat}(hs:r.few k=true):fX r k=true:=by
 obtain⟨h0,h1,h2,h3,h4⟩:=h
 have hs':=of_decide_eq_true hs
 unfold fX;rw[ai (by omega) (by omega),dF (by omega),dT0 hs'];rfl
theorem Gc{r r':Rd}{n:Nat}{es:List SV}(h:r'=r):∀ x,ad [(0,some (rC r' n))] (rH r n es).get x=ad [] (rH r n es).get x:=by
 subst h
 intro x
 cases x with
 | zero=>rfl
 | succ x=>rfl
noncomputable def fE:ag:=fun args H=>match args with
 | [.ptr 0 0,.int .i64 k]=>match rOf H with
  | some (r,n,es)=>.ite (dec (OkRd r es/\n=es.length/\0<=k/\k<=8)) (.ret (.int .u64 (r.num es k.toNat)) [(0,some (rC (r.adv k.toNat) n))]) .fail
  | none=>.fail
 | _=>.fail
theorem yp   :Known Tryz.prog 69 fE   :=fP        (show Known Tryz.prog 69 HV    from⟨⟨Tryz.f69,Tryz.func69,bf       ak       Tryz.func69,rfl⟩,aS          (aL       ak       aq     ok0 300 5) aq     (ba        AL        aE      ) Tryz.func69 JP    ⟩) (by
 intro args H v ups h
 left
 unfold fE at h
 split at h
 . rename_i k
   split at h
   . rename_i r n es hr
     rw[aa]at h
     cases hc:dec (OkRd r es/\n=es.length/\0<=k/\k<=8)with
     | false=>rw[hc]at h;cases h
     | true=>
      rw[hc]at h
      obtain⟨ho,rfl,k0,k8⟩:=dec_iff.1 hc
      obtain⟨j,rfl⟩:=Int.eq_ofNat_of_zero_le k0
      rw[nr hr]
      have ht:=Mo r es.length es j
      cases h
      rw[ht]
      show ∃ ups,_/\∀ x,ad [(0,some (rC (r.adv j) es.length))] _ x=_
      show ∃ ups,ac _=some (.int .u64 (r.num es j),ups)/\_
      unfold Rd.num Rd.adv
      cases he:r.err !=0 with
      | true=>exact⟨[],rfl,Gc (by simp)⟩
      | false=>
       have he0:r.err=0:=by simpa using he
       cases hs:r.few j with
       | true=>
        rw[vg ho hs,he0]
        exact⟨_,rfl,fun x=>rfl⟩
       | false=>
        obtain⟨e1,e2,e3,e4⟩:=vf ho (show j<=1000000 by omega) hs
        have hs':¬ (j:Int) > r.end_ - r.at_:=of_decide_eq_false hs
        have h1:=ho.a0;have h2:=ho.e1
        have hj:(r.at_+(j:Int)).toNat - r.at_.toNat=j:=by omega
        rw[e3,e4,e1,e2,hj,he0,Nat.zero_add,dec_iff.2 ⟨rfl,by omega,by omega,by omega,by omega,ho.b,rfl⟩]
        exact⟨_,rfl,fun x=>rfl⟩
   . cases h
 . cases h)
def wN(r:Rd)(k:Int):Nat:=(wA r k).toNat - (wB r k).toNat
noncomputable def te(k:Nat):Bool:=decide (k<=9223372036854775807)&&decide (k * Tryz.prog.types[5].bytes<=140737488355328)
noncomputable def byK(r':Rd)(n:Nat)(xs:List SV):CTree:=bif te (([]:List SV).length+xs.length)then .ret (.qs 2 1 0 (([]:List SV).length+xs.length)) [(0,some (rC r' n)),(2,some (.seq 5 ([]++xs)))]else .fail
theorem Mx(r:Rd)(n:Nat)(es:List SV)(k:Int):opn (tbl []) Tryz.f126 [.ptr 0 0,.int .i64 k] (rH r n es)=
 bif r.err !=0 then .ret (.qs 2 1 0 0) [(2,some (.seq 5 []))]else bif fX r k then(bif r.err==0 then .ret (.qs 2 1 0 0) [(0,some (rC ⟨r.at_,r.end_,4,r.at_⟩ n)),(2,some (.seq 5 []))]else .ret (.qs 2 1 0 0) [(2,some (.seq 5 []))])else
 bif wY r k n then bif decide (0+(wB r k).toNat=0)&&decide (wN r k=es.length)then byK ⟨wA r k,r.end_,r.err,r.fat⟩ n es else
  bif decide (0+(wB r k).toNat+wN r k<=es.length)then byK ⟨wA r k,r.end_,r.err,r.fat⟩ n ((es.drop (0+(wB r k).toNat)).take (wN r k))else .fail else .fail:=by kernel_rfl
theorem JL:Tryz.prog.types[5].bytes=1:=by kernel_rfl
theorem kB{k:Nat}(h:k<=1000000):te k=true:=by
 unfold te;rw[JL,dT0 (by omega),dT0 (by omega)];rfl
def Rd.sub(r:Rd)(es:List SV)(k:Nat):List SV:=bif r.err !=0 then []else bif r.few k then []else(es.drop r.at_.toNat).take k
theorem yL(r:Rd)(es:List SV)(k:Nat):(r.sub es k).length<=k:=by
 unfold Rd.sub
 cases r.err !=0 with
 | true=>simp
 | false=>cases r.few k <;> simp <;> omega
noncomputable def rP:ag:=fun args H=>match args with
 | [.ptr 0 0,.int .i64 k]=>match rOf H with
  | some (r,n,es)=>.ite (dec (OkRd r es/\n=es.length/\0<=k/\k<=1000000)) (.ret (.qs 2 1 0 (r.sub es k.toNat).length) [(0,some (rC (r.adv k.toNat) n)),(2,some (.seq 5 (r.sub es k.toNat)))]) .fail
  | none=>.fail
 | _=>.fail
theorem Dn{r r':Rd}{n:Nat}{es:List SV}{c:Chunk}(h:r'=r):∀ x,ad [(0,some (rC r' n)),(2,some c)] (rH r n es).get x=ad [(2,some c)] (rH r n es).get x:=by
 subst h
 intro x
 match x with
 | 0=>rfl
 | 1=>rfl
 | 2=>rfl
 | x+3=>rfl
theorem yM   :Known Tryz.prog 126 rP   :=fP        (am        ok0 Tryz.func126 rfl) (by
 intro args H v ups h
 left
 unfold rP at h
 split at h
 . rename_i k
   split at h
   . rename_i r n es hr
     rw[aa]at h
     cases hc:dec (OkRd r es/\n=es.length/\0<=k/\k<=1000000)with
     | false=>rw[hc]at h;cases h
     | true=>
      rw[hc]at h
      obtain⟨ho,rfl,k0,k8⟩:=dec_iff.1 hc
      obtain⟨j,rfl⟩:=Int.eq_ofNat_of_zero_le k0
      rw[nr hr]
      have ht:=Mx r es.length es j
      cases h
      rw[ht]
      show ∃ ups,ac _=some (.qs 2 1 0 (r.sub es j).length,ups)/\∀ x,ad [(0,some (rC (r.adv j) es.length)),(2,some (.seq 5 (r.sub es j)))] _ x=_
      unfold Rd.sub Rd.adv
      cases he:r.err !=0 with
      | true=>exact⟨_,rfl,Dn (by simp)⟩
      | false=>
       have he0:r.err=0:=by simpa using he
       cases hs:r.few j with
       | true=>
        rw[vg ho hs,he0]
        exact⟨_,rfl,fun x=>rfl⟩
       | false=>
        obtain⟨e1,e2,e3,e4⟩:=vf ho (show j<=1000000 by omega) hs
        have hs':¬ (j:Int) > r.end_ - r.at_:=of_decide_eq_false hs
        have h1:=ho.a0;have h2:=ho.e1;have h3:=ho.l
        have hn:wN r j=j:=by unfold wN;rw[e1,e2];omega
        rw[e3,e4,e1,e2,hn,he0,Nat.zero_add]
        simp only[cF,cT]
        have hl:((es.drop r.at_.toNat).take j).length=j:=by rw[List.length_take,List.length_drop];omega
        have hb:∀ xs:List SV,xs.length<=1000000->byK ⟨r.at_+j,r.end_,0,r.fat⟩ es.length xs= .ret (.qs 2 1 0 xs.length) [(0,some (rC ⟨r.at_+j,r.end_,0,r.fat⟩ es.length)),(2,some (.seq 5 xs))]:=by
         intro xs hx
         unfold byK
         rw[List.length_nil,Nat.zero_add,kB hx];rfl
        by_cases hd:r.at_.toNat=0/\j=es.length
        . have hes:(es.drop r.at_.toNat).take j=es:=by rw[hd.1,hd.2];simp
          rw[hes,dT0 hd.1,dT0 hd.2,hb es (by omega)]
          exact⟨_,rfl,fun x=>rfl⟩
        . have hf:(decide (r.at_.toNat=0)&&decide (j=es.length))=false:=by
            cases h5:decide (r.at_.toNat=0) <;> cases h6:decide (j=es.length) <;> simp_all
          rw[hf,cF,dT0 (by omega),cT,hb _ (by omega)]
          exact⟨_,rfl,fun x=>rfl⟩
   . cases h
 . cases h)
def idB(xs:List SV)(j:Nat):Int:=bif Nat.blt j xs.length then asI (xs.getD j .junk)else 0
def idV(xs:List SV):SV:=.agg [.int .u8 (idB xs 0),.int .u8 (idB xs 1),.int .u8 (idB xs 2),.int .u8 (idB xs 3),.int .u8 (idB xs 4),.int .u8 (idB xs 5),.int .u8 (idB xs 6),.int .u8 (idB xs 7),.int .u8 (idB xs 8),.int .u8 (idB xs 9)]
noncomputable abbrev κi:=tbl [(69,fE),(126,rP)]
theorem iOk:KOk Tryz.prog κi:=af yp (af yM ok0)
end Go.Proofs.YtnlmhpancboddaaGreat
