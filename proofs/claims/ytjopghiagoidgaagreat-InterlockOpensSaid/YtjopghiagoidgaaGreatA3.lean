/- Our own texts: a layer of abstract values over the model, the walks of the functions, the plain laws; joined and shortened by a small program of our own (wip/dce2.py, wip/pack.py). -/
import Derived.Test.YtjopghiagoidgaaGreatA2
import Derived.Test.YtjopghiagoidgaaGreatChecked
import Derived.Shelf.RegionOpenPlain
import Derived.WalkKit
import Derived.Lib.Walk
import Derived.Lib.JoinLaws
import Derived.Lib.AppendZeros
import Derived.Lib.AppendZerosOnto
import Derived.Laws.NewBlocks
import Derived.Laws.Externs
import Derived.Test.YtjopghiagoidgaaGreatProg
import Derived.Shelf.SortM.Plain
import Derived.Shelf.SortM.SortNone
import Derived.Shelf.SlIterI.Nil
import Derived.Shelf.Slices.CompactI
namespace Go.Proofs.YtjopghiagoidgaaGreat
open Go Go.Ab
theorem Tryz.mixed:Tryz.prog.follows .mixedOrders=true:=by kernel_rfl
@[go_sem] theorem sz3:Bp Tryz.prog 3=1:=by kernel_rfl
@[go_sem] theorem by3:bytesOf Tryz.prog 3=8:=by kernel_rfl
@[go_sem] theorem un3:Program.underlying Tryz.prog 3=some (.int .i64):=by kernel_rfl
@[go_sem] theorem zc3:B7 Tryz.prog 3=[.int .i64 0]:=by kernel_rfl
@[go_sem] theorem ok4:okT Tryz.prog 4=true:=by kernel_rfl
@[go_sem] theorem sz4:Bp Tryz.prog 4=1:=by kernel_rfl
@[go_sem] theorem un4:Program.underlying Tryz.prog 4=some (.bool):=by kernel_rfl
@[go_sem] theorem zv4:azero Tryz.prog 4= .bool false:=by kernel_rfl
@[go_sem] theorem Ana:Bp Tryz.prog 22=1:=by kernel_rfl
@[go_sem] theorem Amh:Program.underlying Tryz.prog 22=some (.slice 114):=by kernel_rfl
@[go_sem] theorem Aoc:F1 Tryz.prog 22=some 114:=by kernel_rfl
@[go_sem] theorem Am9:Bp Tryz.prog 23=1:=by kernel_rfl
@[go_sem] theorem Amg:Program.underlying Tryz.prog 23=some (.slice 80):=by kernel_rfl
@[go_sem] theorem Aob:F1 Tryz.prog 23=some 80:=by kernel_rfl
@[go_sem] theorem Am8:Bp Tryz.prog 24=1:=by kernel_rfl
@[go_sem] theorem Amf:Program.underlying Tryz.prog 24=some (.slice 62):=by kernel_rfl
@[go_sem] theorem Aoa:F1 Tryz.prog 24=some 62:=by kernel_rfl
@[go_sem] theorem Am7:Bp Tryz.prog 25=1:=by kernel_rfl
@[go_sem] theorem Ame:Program.underlying Tryz.prog 25=some (.slice 3):=by kernel_rfl
@[go_sem] theorem An9:F1 Tryz.prog 25=some 3:=by kernel_rfl
@[go_sem] theorem Al0:B7 Tryz.prog 25=[.nils]:=by kernel_rfl
@[go_sem] theorem All:azero Tryz.prog 25= .nils:=by kernel_rfl
@[go_sem] theorem Am6:Bp Tryz.prog 27=4:=by kernel_rfl
@[go_sem] theorem Alz:B7 Tryz.prog 27=[.nils,.nils,.nils,.nils]:=by kernel_rfl
@[go_sem] theorem Ajw:Bn Tryz.prog 27 0=some (0,1):=by kernel_rfl
@[go_sem] theorem Ajv:Bn Tryz.prog 27 1=some (1,1):=by kernel_rfl
@[go_sem] theorem Aju:Bn Tryz.prog 27 2=some (2,1):=by kernel_rfl
@[go_sem] theorem Ajt:Bn Tryz.prog 27 3=some (3,1):=by kernel_rfl
@[go_sem] theorem Ano:placesOf Tryz.prog 27=some [(0,1),(1,1),(2,1),(3,1)]:=by kernel_rfl
@[go_sem] theorem Am5:Bp Tryz.prog 28=1:=by kernel_rfl
@[go_sem] theorem Amd:Program.underlying Tryz.prog 28=some (.slice 78):=by kernel_rfl
@[go_sem] theorem An8:F1 Tryz.prog 28=some 78:=by kernel_rfl
@[go_sem] theorem Am4:Bp Tryz.prog 29=1:=by kernel_rfl
@[go_sem] theorem Amc:Program.underlying Tryz.prog 29=some (.slice 72):=by kernel_rfl
@[go_sem] theorem An7:F1 Tryz.prog 29=some 72:=by kernel_rfl
@[go_sem] theorem Am3:Bp Tryz.prog 30=1:=by kernel_rfl
@[go_sem] theorem Amb:Program.underlying Tryz.prog 30=some (.slice 119):=by kernel_rfl
@[go_sem] theorem An6:F1 Tryz.prog 30=some 119:=by kernel_rfl
@[go_sem] theorem Am2:Bp Tryz.prog 31=1:=by kernel_rfl
@[go_sem] theorem Ama:Program.underlying Tryz.prog 31=some (.slice 74):=by kernel_rfl
@[go_sem] theorem An5:F1 Tryz.prog 31=some 74:=by kernel_rfl
@[go_sem] theorem Am1:Bp Tryz.prog 33=2:=by kernel_rfl
@[go_sem] theorem Aly:B7 Tryz.prog 33=[.nils,.nils]:=by kernel_rfl
@[go_sem] theorem Ajs:Bn Tryz.prog 33 0=some (0,1):=by kernel_rfl
@[go_sem] theorem Ajr:Bn Tryz.prog 33 1=some (1,1):=by kernel_rfl
@[go_sem] theorem Ann:placesOf Tryz.prog 33=some [(0,1),(1,1)]:=by kernel_rfl
@[go_sem] theorem Am0:Bp Tryz.prog 34=1:=by kernel_rfl
@[go_sem] theorem Al9:Program.underlying Tryz.prog 34=some (.slice 162):=by kernel_rfl
@[go_sem] theorem An4:F1 Tryz.prog 34=some 162:=by kernel_rfl
@[go_sem] theorem Amz:Bp Tryz.prog 35=1:=by kernel_rfl
@[go_sem] theorem Al8:Program.underlying Tryz.prog 35=some (.slice 86):=by kernel_rfl
@[go_sem] theorem An3:F1 Tryz.prog 35=some 86:=by kernel_rfl
@[go_sem] theorem Amy:Bp Tryz.prog 36=1:=by kernel_rfl
@[go_sem] theorem Al7:Program.underlying Tryz.prog 36=some (.slice 76):=by kernel_rfl
@[go_sem] theorem An2:F1 Tryz.prog 36=some 76:=by kernel_rfl
@[go_sem] theorem Amx:Bp Tryz.prog 37=1:=by kernel_rfl
@[go_sem] theorem Al6:Program.underlying Tryz.prog 37=some (.slice 139):=by kernel_rfl
@[go_sem] theorem An1:F1 Tryz.prog 37=some 139:=by kernel_rfl
@[go_sem] theorem Amw:Bp Tryz.prog 38=1:=by kernel_rfl
@[go_sem] theorem Al5:Program.underlying Tryz.prog 38=some (.slice 170):=by kernel_rfl
@[go_sem] theorem An0:F1 Tryz.prog 38=some 170:=by kernel_rfl
@[go_sem] theorem Amv:Bp Tryz.prog 39=1:=by kernel_rfl
@[go_sem] theorem Al4:Program.underlying Tryz.prog 39=some (.slice 173):=by kernel_rfl
@[go_sem] theorem Anz:F1 Tryz.prog 39=some 173:=by kernel_rfl
@[go_sem] theorem Amu:Bp Tryz.prog 40=1:=by kernel_rfl
@[go_sem] theorem Al3:Program.underlying Tryz.prog 40=some (.slice 177):=by kernel_rfl
@[go_sem] theorem Anx:F1 Tryz.prog 40=some 177:=by kernel_rfl
@[go_sem] theorem Amt:Bp Tryz.prog 41=1:=by kernel_rfl
@[go_sem] theorem Al2:Program.underlying Tryz.prog 41=some (.slice 70):=by kernel_rfl
@[go_sem] theorem Anw:F1 Tryz.prog 41=some 70:=by kernel_rfl
@[go_sem] theorem Ams:Bp Tryz.prog 43=18:=by kernel_rfl
@[go_sem] theorem Alx:B7 Tryz.prog 43=[.nils,.nils,.nils,.nils,.nils,.nils,.nils,.nils,.nils,.nils,.nils,.nils,.nils,.nils,.nils,.nils,.int .i64 0,.int .i64 0]:=by kernel_rfl
@[go_sem] theorem Ajq:Bn Tryz.prog 43 0=some (0,4):=by kernel_rfl
@[go_sem] theorem Ajp:Bn Tryz.prog 43 1=some (4,1):=by kernel_rfl
@[go_sem] theorem Ajo:Bn Tryz.prog 43 2=some (5,1):=by kernel_rfl
@[go_sem] theorem Ajn:Bn Tryz.prog 43 3=some (6,2):=by kernel_rfl
@[go_sem] theorem Ajm:Bn Tryz.prog 43 4=some (8,1):=by kernel_rfl
@[go_sem] theorem Ajl:Bn Tryz.prog 43 5=some (9,1):=by kernel_rfl
@[go_sem] theorem Ajk:Bn Tryz.prog 43 6=some (10,1):=by kernel_rfl
@[go_sem] theorem Ajj:Bn Tryz.prog 43 7=some (11,1):=by kernel_rfl
@[go_sem] theorem Aji:Bn Tryz.prog 43 8=some (12,1):=by kernel_rfl
@[go_sem] theorem Ajh:Bn Tryz.prog 43 9=some (13,1):=by kernel_rfl
@[go_sem] theorem Agg:Bn Tryz.prog 43 10=some (14,1):=by kernel_rfl
@[go_sem] theorem Agf:Bn Tryz.prog 43 11=some (15,1):=by kernel_rfl
@[go_sem] theorem Age:Bn Tryz.prog 43 12=some (16,1):=by kernel_rfl
@[go_sem] theorem Agd:Bn Tryz.prog 43 13=some (17,1):=by kernel_rfl
@[go_sem] theorem Anm:placesOf Tryz.prog 43=some [(0,4),(4,1),(5,1),(6,2),(8,1),(9,1),(10,1),(11,1),(12,1),(13,1),(14,1),(15,1),(16,1),(17,1)]:=by kernel_rfl
@[go_sem] theorem Amr:Bp Tryz.prog 46=1:=by kernel_rfl
@[go_sem] theorem Alw:B7 Tryz.prog 46=[.int .i64 0]:=by kernel_rfl
@[go_sem] theorem Amq:Bp Tryz.prog 62=7:=by kernel_rfl
@[go_sem] theorem Aol:bytesOf Tryz.prog 62=56:=by kernel_rfl
@[go_sem] theorem Alv:B7 Tryz.prog 62=[.int .i64 0,.int .i64 0,.int .i64 0,.int .i64 0,.int .i64 0,.int .i64 0,.int .i64 0]:=by kernel_rfl
@[go_sem] theorem Ajg:Bn Tryz.prog 62 0=some (0,1):=by kernel_rfl
@[go_sem] theorem Ajf:Bn Tryz.prog 62 1=some (1,1):=by kernel_rfl
@[go_sem] theorem Aje:Bn Tryz.prog 62 2=some (2,1):=by kernel_rfl
@[go_sem] theorem Ajd:Bn Tryz.prog 62 3=some (3,1):=by kernel_rfl
@[go_sem] theorem Ajc:Bn Tryz.prog 62 4=some (4,1):=by kernel_rfl
@[go_sem] theorem Ajb:Bn Tryz.prog 62 5=some (5,1):=by kernel_rfl
@[go_sem] theorem Aja:Bn Tryz.prog 62 6=some (6,1):=by kernel_rfl
@[go_sem] theorem Anl:placesOf Tryz.prog 62=some [(0,1),(1,1),(2,1),(3,1),(4,1),(5,1),(6,1)]:=by kernel_rfl
@[go_sem] theorem Anv:Mn Tryz.prog 62=some [(0,false),(1,false),(2,false),(3,false),(4,false),(5,false),(6,false)]:=by kernel_rfl
@[go_sem] theorem Al1:Program.underlying Tryz.prog 65=some (.int .u64):=by kernel_rfl
@[go_sem] theorem Amp:Bp Tryz.prog 70=3:=by kernel_rfl
@[go_sem] theorem Aok:bytesOf Tryz.prog 70=24:=by kernel_rfl
@[go_sem] theorem Alu:B7 Tryz.prog 70=[.int .i64 0,.bool false,.int .i64 0]:=by kernel_rfl
@[go_sem] theorem Ai9:Bn Tryz.prog 70 0=some (0,1):=by kernel_rfl
@[go_sem] theorem Ai8:Bn Tryz.prog 70 1=some (1,1):=by kernel_rfl
@[go_sem] theorem Ai7:Bn Tryz.prog 70 2=some (2,1):=by kernel_rfl
@[go_sem] theorem Ank:placesOf Tryz.prog 70=some [(0,1),(1,1),(2,1)]:=by kernel_rfl
@[go_sem] theorem Anu:Mn Tryz.prog 70=some [(0,false),(1,true),(2,false)]:=by kernel_rfl
@[go_sem] theorem Amo:Bp Tryz.prog 72=4:=by kernel_rfl
@[go_sem] theorem Aoj:bytesOf Tryz.prog 72=32:=by kernel_rfl
@[go_sem] theorem Als:B7 Tryz.prog 72=[.int .i64 0,.int .i64 0,.int .i64 0,.int .i64 0]:=by kernel_rfl
@[go_sem] theorem Ai6:Bn Tryz.prog 72 0=some (0,1):=by kernel_rfl
@[go_sem] theorem Ai5:Bn Tryz.prog 72 1=some (1,1):=by kernel_rfl
@[go_sem] theorem Ai4:Bn Tryz.prog 72 2=some (2,1):=by kernel_rfl
@[go_sem] theorem Ai3:Bn Tryz.prog 72 3=some (3,1):=by kernel_rfl
@[go_sem] theorem Anj:placesOf Tryz.prog 72=some [(0,1),(1,1),(2,1),(3,1)]:=by kernel_rfl
@[go_sem] theorem Ant:Mn Tryz.prog 72=some [(0,false),(1,false),(2,false),(3,false)]:=by kernel_rfl
@[go_sem] theorem Amn:Bp Tryz.prog 74=3:=by kernel_rfl
@[go_sem] theorem Aoi:bytesOf Tryz.prog 74=24:=by kernel_rfl
@[go_sem] theorem Alr:B7 Tryz.prog 74=[.int .i64 0,.int .i64 0,.int .i64 0]:=by kernel_rfl
@[go_sem] theorem Ai2:Bn Tryz.prog 74 0=some (0,1):=by kernel_rfl
@[go_sem] theorem Ai1:Bn Tryz.prog 74 1=some (1,1):=by kernel_rfl
@[go_sem] theorem Ai0:Bn Tryz.prog 74 2=some (2,1):=by kernel_rfl
@[go_sem] theorem Ani:placesOf Tryz.prog 74=some [(0,1),(1,1),(2,1)]:=by kernel_rfl
@[go_sem] theorem Ans:Mn Tryz.prog 74=some [(0,false),(1,false),(2,false)]:=by kernel_rfl
@[go_sem] theorem Amm:Bp Tryz.prog 76=6:=by kernel_rfl
@[go_sem] theorem Aoh:bytesOf Tryz.prog 76=80:=by kernel_rfl
@[go_sem] theorem Alq:B7 Tryz.prog 76=[.int .i64 0,.nils,.nils,.int .i64 0,.int .i64 0,.int .i64 0]:=by kernel_rfl
@[go_sem] theorem Aiz:Bn Tryz.prog 76 0=some (0,1):=by kernel_rfl
@[go_sem] theorem Aiy:Bn Tryz.prog 76 1=some (1,1):=by kernel_rfl
@[go_sem] theorem Aix:Bn Tryz.prog 76 2=some (2,1):=by kernel_rfl
@[go_sem] theorem Aiw:Bn Tryz.prog 76 3=some (3,1):=by kernel_rfl
@[go_sem] theorem Aiv:Bn Tryz.prog 76 4=some (4,1):=by kernel_rfl
@[go_sem] theorem Aiu:Bn Tryz.prog 76 5=some (5,1):=by kernel_rfl
@[go_sem] theorem Anh:placesOf Tryz.prog 76=some [(0,1),(1,1),(2,1),(3,1),(4,1),(5,1)]:=by kernel_rfl
@[go_sem] theorem Aml:Bp Tryz.prog 78=2:=by kernel_rfl
@[go_sem] theorem Aog:bytesOf Tryz.prog 78=16:=by kernel_rfl
@[go_sem] theorem Alp:B7 Tryz.prog 78=[.int .i64 0,.int .i64 0]:=by kernel_rfl
@[go_sem] theorem Ait:Bn Tryz.prog 78 0=some (0,1):=by kernel_rfl
@[go_sem] theorem Ais:Bn Tryz.prog 78 1=some (1,1):=by kernel_rfl
@[go_sem] theorem Ang:placesOf Tryz.prog 78=some [(0,1),(1,1)]:=by kernel_rfl
@[go_sem] theorem Anr:Mn Tryz.prog 78=some [(0,false),(1,false)]:=by kernel_rfl
@[go_sem] theorem Amk:Bp Tryz.prog 80=8:=by kernel_rfl
@[go_sem] theorem Aof:bytesOf Tryz.prog 80=64:=by kernel_rfl
@[go_sem] theorem Alo:B7 Tryz.prog 80=[.int .i64 0,.int .i64 0,.int .i64 0,.int .i64 0,.int .i64 0,.int .i64 0,.int .i64 0,.int .i64 0]:=by kernel_rfl
@[go_sem] theorem Air:Bn Tryz.prog 80 0=some (0,1):=by kernel_rfl
@[go_sem] theorem Aiq:Bn Tryz.prog 80 1=some (1,1):=by kernel_rfl
@[go_sem] theorem Aip:Bn Tryz.prog 80 2=some (2,1):=by kernel_rfl
@[go_sem] theorem Aio:Bn Tryz.prog 80 3=some (3,1):=by kernel_rfl
@[go_sem] theorem Ain:Bn Tryz.prog 80 4=some (4,1):=by kernel_rfl
@[go_sem] theorem Aim:Bn Tryz.prog 80 5=some (5,1):=by kernel_rfl
@[go_sem] theorem Ail:Bn Tryz.prog 80 6=some (6,1):=by kernel_rfl
@[go_sem] theorem Aik:Bn Tryz.prog 80 7=some (7,1):=by kernel_rfl
@[go_sem] theorem Anf:placesOf Tryz.prog 80=some [(0,1),(1,1),(2,1),(3,1),(4,1),(5,1),(6,1),(7,1)]:=by kernel_rfl
@[go_sem] theorem Anq:Mn Tryz.prog 80=some [(0,false),(1,false),(2,false),(3,false),(4,false),(5,false),(6,false),(7,false)]:=by kernel_rfl
@[go_sem] theorem Amj:Bp Tryz.prog 84=3:=by kernel_rfl
@[go_sem] theorem Aln:B7 Tryz.prog 84=[.int .i64 0,.int .i64 0,.int .i64 0]:=by kernel_rfl
@[go_sem] theorem Aij:Bn Tryz.prog 84 0=some (0,1):=by kernel_rfl
@[go_sem] theorem Aii:Bn Tryz.prog 84 1=some (1,1):=by kernel_rfl
@[go_sem] theorem Aih:Bn Tryz.prog 84 2=some (2,1):=by kernel_rfl
@[go_sem] theorem Ane:placesOf Tryz.prog 84=some [(0,1),(1,1),(2,1)]:=by kernel_rfl
@[go_sem] theorem Ami:Bp Tryz.prog 86=5:=by kernel_rfl
@[go_sem] theorem Aoe:bytesOf Tryz.prog 86=40:=by kernel_rfl
@[go_sem] theorem Alm:B7 Tryz.prog 86=[.int .i64 0,.int .i64 0,.int .i64 0,.int .i64 0,.int .i64 0]:=by kernel_rfl
@[go_sem] theorem Aig:Bn Tryz.prog 86 0=some (0,1):=by kernel_rfl
@[go_sem] theorem Aif:Bn Tryz.prog 86 1=some (1,1):=by kernel_rfl
@[go_sem] theorem Aie:Bn Tryz.prog 86 2=some (2,3):=by kernel_rfl
@[go_sem] theorem Anb:placesOf Tryz.prog 86=some [(0,1),(1,1),(2,3)]:=by kernel_rfl
@[go_sem] theorem Anp:Mn Tryz.prog 86=none:=by kernel_rfl
@[go_sem] theorem Aod:rH Tryz.prog 86=some [(0,false),(1,false),(2,false),(3,false),(4,false)]:=by kernel_rfl
@[go_sem] theorem Aks:Bp Tryz.prog 111=1:=by kernel_rfl
@[go_sem] theorem Ake:Program.underlying Tryz.prog 111=some (.slice 188):=by kernel_rfl
@[go_sem] theorem Ala:F1 Tryz.prog 111=some 188:=by kernel_rfl
@[go_sem] theorem Aka:B7 Tryz.prog 111=[.nils]:=by kernel_rfl
@[go_sem] theorem Akr:Bp Tryz.prog 114=2:=by kernel_rfl
@[go_sem] theorem Alk:bytesOf Tryz.prog 114=16:=by kernel_rfl
@[go_sem] theorem Aj9:B7 Tryz.prog 114=[.int .i64 0,.int .i64 0]:=by kernel_rfl
@[go_sem] theorem Ahm:Bn Tryz.prog 114 0=some (0,1):=by kernel_rfl
@[go_sem] theorem Ahl:Bn Tryz.prog 114 1=some (1,1):=by kernel_rfl
@[go_sem] theorem Akx:placesOf Tryz.prog 114=some [(0,1),(1,1)]:=by kernel_rfl
@[go_sem] theorem Ak6:Mn Tryz.prog 114=some [(0,false),(1,false)]:=by kernel_rfl
@[go_sem] theorem Akq:Bp Tryz.prog 115=1:=by kernel_rfl
@[go_sem] theorem Akd:Program.underlying Tryz.prog 115=some (.slice 157):=by kernel_rfl
@[go_sem] theorem Ak9:F1 Tryz.prog 115=some 157:=by kernel_rfl
@[go_sem] theorem Akp:Bp Tryz.prog 117=3:=by kernel_rfl
@[go_sem] theorem Aj8:B7 Tryz.prog 117=[.nils,.int .i64 0,.nils]:=by kernel_rfl
@[go_sem] theorem Ahk:Bn Tryz.prog 117 0=some (0,1):=by kernel_rfl
@[go_sem] theorem Ahj:Bn Tryz.prog 117 1=some (1,1):=by kernel_rfl
@[go_sem] theorem Ahi:Bn Tryz.prog 117 2=some (2,1):=by kernel_rfl
@[go_sem] theorem Akw:placesOf Tryz.prog 117=some [(0,1),(1,1),(2,1)]:=by kernel_rfl
@[go_sem] theorem Ako:Bp Tryz.prog 119=4:=by kernel_rfl
@[go_sem] theorem Alj:bytesOf Tryz.prog 119=64:=by kernel_rfl
@[go_sem] theorem Aj7:B7 Tryz.prog 119=[.int .i64 0,.nils,.int .i64 0,.nils]:=by kernel_rfl
@[go_sem] theorem Ahh:Bn Tryz.prog 119 0=some (0,1):=by kernel_rfl
@[go_sem] theorem Ahg:Bn Tryz.prog 119 1=some (1,3):=by kernel_rfl
@[go_sem] theorem Akv:placesOf Tryz.prog 119=some [(0,1),(1,3)]:=by kernel_rfl
@[go_sem] theorem Akc:Program.underlying Tryz.prog 129=some (.slice 46):=by kernel_rfl
@[go_sem] theorem Ak8:F1 Tryz.prog 129=some 46:=by kernel_rfl
@[go_sem] theorem Akn:Bp Tryz.prog 137=2:=by kernel_rfl
@[go_sem] theorem Aj6:B7 Tryz.prog 137=[.int .i64 0,.int .i64 0]:=by kernel_rfl
@[go_sem] theorem Ahf:Bn Tryz.prog 137 0=some (0,1):=by kernel_rfl
@[go_sem] theorem Ahe:Bn Tryz.prog 137 1=some (1,1):=by kernel_rfl
@[go_sem] theorem Ak5:Mn Tryz.prog 137=some [(0,false),(1,false)]:=by kernel_rfl
@[go_sem] theorem Akm:Bp Tryz.prog 139=7:=by kernel_rfl
@[go_sem] theorem Ali:bytesOf Tryz.prog 139=72:=by kernel_rfl
@[go_sem] theorem Aj5:B7 Tryz.prog 139=[.int .i64 0,.int .i64 0,.int .i64 0,.int .i64 0,.int .i64 0,.nils,.int .i64 0]:=by kernel_rfl
@[go_sem] theorem Ahd:Bn Tryz.prog 139 0=some (0,1):=by kernel_rfl
@[go_sem] theorem Ahc:Bn Tryz.prog 139 1=some (1,2):=by kernel_rfl
@[go_sem] theorem Ahb:Bn Tryz.prog 139 2=some (3,1):=by kernel_rfl
@[go_sem] theorem Aha:Bn Tryz.prog 139 3=some (4,1):=by kernel_rfl
@[go_sem] theorem Ag9:Bn Tryz.prog 139 4=some (5,1):=by kernel_rfl
@[go_sem] theorem Ag8:Bn Tryz.prog 139 5=some (6,1):=by kernel_rfl
@[go_sem] theorem Akl:Bp Tryz.prog 157=3:=by kernel_rfl
@[go_sem] theorem Alh:bytesOf Tryz.prog 157=24:=by kernel_rfl
@[go_sem] theorem Aj4:B7 Tryz.prog 157=[.int .i64 0,.int .i64 0,.int .i64 0]:=by kernel_rfl
@[go_sem] theorem Ag7:Bn Tryz.prog 157 0=some (0,1):=by kernel_rfl
@[go_sem] theorem Ag6:Bn Tryz.prog 157 1=some (1,1):=by kernel_rfl
@[go_sem] theorem Ag5:Bn Tryz.prog 157 2=some (2,1):=by kernel_rfl
@[go_sem] theorem Ak4:Mn Tryz.prog 157=some [(0,false),(1,false),(2,false)]:=by kernel_rfl
@[go_sem] theorem Akk:Bp Tryz.prog 162=3:=by kernel_rfl
@[go_sem] theorem Alg:bytesOf Tryz.prog 162=24:=by kernel_rfl
@[go_sem] theorem Aj3:B7 Tryz.prog 162=[.int .i64 0,.int .i64 0,.int .i64 0]:=by kernel_rfl
@[go_sem] theorem Ag4:Bn Tryz.prog 162 0=some (0,1):=by kernel_rfl
@[go_sem] theorem Ag3:Bn Tryz.prog 162 1=some (1,1):=by kernel_rfl
@[go_sem] theorem Ag2:Bn Tryz.prog 162 2=some (2,1):=by kernel_rfl
@[go_sem] theorem Ak3:Mn Tryz.prog 162=some [(0,false),(1,false),(2,false)]:=by kernel_rfl
@[go_sem] theorem Akj:Bp Tryz.prog 170=7:=by kernel_rfl
@[go_sem] theorem Alf:bytesOf Tryz.prog 170=56:=by kernel_rfl
@[go_sem] theorem Aj2:B7 Tryz.prog 170=[.int .i64 0,.int .i64 0,.int .i64 0,.int .i64 0,.int .i64 0,.int .i64 0,.int .i64 0]:=by kernel_rfl
@[go_sem] theorem Ag1:Bn Tryz.prog 170 0=some (0,1):=by kernel_rfl
@[go_sem] theorem Ag0:Bn Tryz.prog 170 1=some (1,1):=by kernel_rfl
@[go_sem] theorem Agz:Bn Tryz.prog 170 2=some (2,1):=by kernel_rfl
@[go_sem] theorem Agy:Bn Tryz.prog 170 3=some (3,1):=by kernel_rfl
@[go_sem] theorem Agx:Bn Tryz.prog 170 4=some (4,1):=by kernel_rfl
@[go_sem] theorem Agw:Bn Tryz.prog 170 5=some (5,2):=by kernel_rfl
@[go_sem] theorem Ak2:Mn Tryz.prog 170=none:=by kernel_rfl
@[go_sem] theorem Alb:rH Tryz.prog 170=some [(0,false),(1,false),(2,false),(3,false),(4,false),(5,false),(6,false)]:=by kernel_rfl
@[go_sem] theorem Aki:Bp Tryz.prog 173=4:=by kernel_rfl
@[go_sem] theorem Ale:bytesOf Tryz.prog 173=48:=by kernel_rfl
@[go_sem] theorem Aj1:B7 Tryz.prog 173=[.int .i64 0,.int .i64 0,.int .i64 0,.nils]:=by kernel_rfl
@[go_sem] theorem Agv:Bn Tryz.prog 173 0=some (0,1):=by kernel_rfl
@[go_sem] theorem Agu:Bn Tryz.prog 173 1=some (1,1):=by kernel_rfl
@[go_sem] theorem Agt:Bn Tryz.prog 173 2=some (2,1):=by kernel_rfl
@[go_sem] theorem Ags:Bn Tryz.prog 173 3=some (3,1):=by kernel_rfl
@[go_sem] theorem Akh:Bp Tryz.prog 177=8:=by kernel_rfl
@[go_sem] theorem Ald:bytesOf Tryz.prog 177=64:=by kernel_rfl
@[go_sem] theorem Aj0:B7 Tryz.prog 177=[.int .i64 0,.int .i64 0,.int .i64 0,.int .i64 0,.int .i64 0,.int .i64 0,.int .i64 0,.bool false]:=by kernel_rfl
@[go_sem] theorem Agr:Bn Tryz.prog 177 0=some (0,1):=by kernel_rfl
@[go_sem] theorem Agq:Bn Tryz.prog 177 1=some (1,1):=by kernel_rfl
@[go_sem] theorem Agp:Bn Tryz.prog 177 2=some (2,1):=by kernel_rfl
@[go_sem] theorem Ago:Bn Tryz.prog 177 3=some (3,1):=by kernel_rfl
@[go_sem] theorem Agn:Bn Tryz.prog 177 4=some (4,1):=by kernel_rfl
@[go_sem] theorem Agm:Bn Tryz.prog 177 5=some (5,1):=by kernel_rfl
@[go_sem] theorem Agl:Bn Tryz.prog 177 6=some (6,1):=by kernel_rfl
@[go_sem] theorem Ak1:Mn Tryz.prog 177=some [(0,false),(1,false),(2,false),(3,false),(4,false),(5,false),(6,false),(7,true)]:=by kernel_rfl
@[go_sem] theorem Akg:Bp Tryz.prog 188=4:=by kernel_rfl
@[go_sem] theorem Alc:bytesOf Tryz.prog 188=32:=by kernel_rfl
@[go_sem] theorem Ajz:B7 Tryz.prog 188=[.int .i64 0,.int .i64 0,.int .i64 0,.int .i64 0]:=by kernel_rfl
@[go_sem] theorem Agk:Bn Tryz.prog 188 0=some (0,1):=by kernel_rfl
@[go_sem] theorem Agj:Bn Tryz.prog 188 1=some (1,1):=by kernel_rfl
@[go_sem] theorem Agi:Bn Tryz.prog 188 2=some (2,1):=by kernel_rfl
@[go_sem] theorem Agh:Bn Tryz.prog 188 3=some (3,1):=by kernel_rfl
@[go_sem] theorem Aku:placesOf Tryz.prog 188=some [(0,1),(1,1),(2,1),(3,1)]:=by kernel_rfl
@[go_sem] theorem Akf:Bp Tryz.prog 192=3:=by kernel_rfl
@[go_sem] theorem Ajy:B7 Tryz.prog 192=[.int .i64 0,.int .i64 0,.int .i64 0]:=by kernel_rfl
@[go_sem] theorem Akt:placesOf Tryz.prog 192=some [(0,1),(1,1),(2,1)]:=by kernel_rfl
@[go_sem] theorem Ak0:Mn Tryz.prog 192=some [(0,false),(1,false),(2,false)]:=by kernel_rfl
@[go_sem] theorem Akz:rA Tryz.prog 205=some 4:=by kernel_rfl
@[go_sem] theorem Akb:Program.underlying Tryz.prog 259=some (.slice 111):=by kernel_rfl
@[go_sem] theorem Ak7:F1 Tryz.prog 259=some 111:=by kernel_rfl
@[go_sem] theorem Aky:rA Tryz.prog 270=some 25:=by kernel_rfl
end Go.Proofs.YtjopghiagoidgaaGreat
namespace Go.Proofs.YtjopghiagoidgaaGreat
open Go Go.Shelf Go.RowKit Go.Lib
set_option linter.unusedSimpArgs false
set_option linter.unusedVariables false
theorem Aaj (w:World) {o:Oper} {a:Act} {K:Act→World→Prop} {Q:Exit→Act→World→Prop} {P:Program} (d s:Operand) (t t':TypeId)
    (ho:o.op= .call {callee:=.builtin .copy,args:=#[d,s],argTypes:=#[t,t']}) (v u:Value) (hd:a.eval d=v) (hs:a.eval s=u) {v':Value} {w':World}
    (hr:(Builtin.copy_ #[t,t'] o.type #[v,u]).run P w= .ok v' w') (h:K (a.put o.dst v') w'):o.wp P a w K Q:=by
  unfold Oper.wp execOp
  simp only[ho,resolve,invoke,builtin,Sem.run_bind,Sem.run_pure,Result.andThen_ok,List.map_toArray,List.map_cons,List.map_nil,hd,hs,hr]
  exact h
theorem mL {P:Program} (w:World) {ops:Array Oper} {rest:List Oper} {o:Oper} {a:Act} {Q:Exit→Act→World→Prop} (hgd:o.guard=none) (d s:Operand) (t t':TypeId)
    (ho:o.op= .call {callee:=.builtin .copy,args:=#[d,s],argTypes:=#[t,t']}) (v u:Value) (hd:a.eval d=v) (hs:a.eval s=u) {v':Value} {w':World}
    (hr:(Builtin.copy_ #[t,t'] o.type #[v,u]).run P w= .ok v' w') (h:wpList P ops Q rest (a.put o.dst v') w'):wpList P ops Q (o::rest) a w:=
  wpList_plain hgd fun _ hK=>Aaj w d s t t' ho v u hd hs hr (hK _ _ h)
theorem r7 {P:Program} {ops:Array Oper} {o:Oper} {a:Act} {w:World} {K:Act→World→Prop} {Q:Exit→Act→World→Prop} {E:Prop}
    (hg:o.guard=none) (d x:Operand) (dT sT:TypeId) (vf:o.op=Op.call {callee:=Callee.builtin Builtin.copy,args:=#[d,x],argTypes:=#[dT,sT]})
    (v u:Value) (hd:a.eval d=v) (hx:a.eval x=u) {v':Value} {w':World} (hr:(Builtin.copy_ #[dT,sT] o.type #[v,u]).run P w= .ok v' w') (hK:K (a.put o.dst v') w') :
    if Region.wanted o (yielded ops a.tmps)=true then Oper.wp P o a w K Q else E:=by
  have hw:Region.wanted o (yielded ops a.tmps)=true:=by simp[Region.wanted,hg]
  rw[if_pos hw]
  unfold Oper.wp
  simp[execOp,vf,resolve,invoke,builtin,hd,hx,hr,Result.andThen]
  exact hK
theorem lQ (b:Nat) (vs:List Value) (o:Nat) (w:World) (h:∀ j,j<vs.length→(w.cell? ⟨b,o+j,none⟩).isSome=true) (k:Nat) (hk:(w.cell? ⟨b,k,none⟩).isSome=true):((w.setCells b o vs).cell? ⟨b,k,none⟩).isSome=true:=by
  by_cases ij:o≤k∧k<o+vs.length
  ·have:=World.cell?_setCells_in b vs o w h (k - o) (by omega)
   rw[show o+(k - o)=k by omega]at this
   rw[this];rfl
  ·rw[World.cell?_setCells_out b vs o w ⟨b,k,none⟩ (fun _ _=>by show k<o∨o+vs.length≤k;omega)]
   exact hk
theorem Xh {P:Program} (w:World) (dT sT ty elem:TypeId) (b o dLen dCap:Nat) (a:Addr) (sLen sCap sz m:Nat) (cs:List Value)
    (hu:P.underlying dT=some (.slice elem)) (hs:(P.info? elem).map (·.size)=some sz) (hm:m=Nat.min sLen dLen) (hn:cs.length=m*sz)
    (tt:∀ j v,cs[j]? =some v→w.cell? (a.add j)=some v) (hc:∀ j,j<cs.length→(w.cell? ⟨b,o+j,none⟩).isSome=true) (hf:∀ j,j<cs.length→w.frozen? ⟨b,o+j,none⟩=false) (h1:∀ v∈cs,v.oneCell'=true) :
    (Builtin.copy_ #[dT,sT] ty #[.slice (some ⟨b,o,none⟩) dLen dCap,.slice (some a) sLen sCap]).run P w= .ok (goInt m) (w.setCells b o cs):=by
  have hl:=run_loadCells_list (P:=P) w a cs tt
  have jt:=run_storeCells_cells (P:=P) b o cs 0 w (by simpa using hc) (by simpa using hf) h1
  cases hq:P.info? elem with
  | none=>simp[hq]at hs
  | some i=>
    have hi:i.size=sz:=by simpa[hq]using hs
    simp[Builtin.copy_,run_underlying hu,Builtin.lenOf,Builtin.firstCells,sizeOf,typeInfo,hq,hi,← hm,← hn,hl,jt]
theorem i70:(Tryz.prog.info? 70).map (fun i=>(i.zero,i.size,i.bytes))=some (some (.agg #[.int .i64 0,.bool false,.int .i64 0]),3,24):=by kernel_rfl
theorem s70:(Tryz.prog.info? 70).map (·.size)=some 3:=by kernel_rfl
set_option maxHeartbeats 4000000 in
set_option maxRecDepth 100000 in
theorem Ab7 (b off n c i vb voff vc:Nat) (cs vs:List Value) (w:World) (hi:i<n) (hnc:n≤c) (er:c<n+1) (yd:(n+1)*24≤140737488355328)
    (et:cs.length=n*3) (lf:vs.length=3)
    (jh:∀ j v,cs[j]? =some v→w.cell? ⟨b,off+j,none⟩=some v)
    (fc:∀ j v,vs[j]? =some v→w.cell? ⟨vb,voff+j,none⟩=some v) (h1c:∀ v∈cs,v.oneCell'=true) (h1v:∀ v∈vs,v.oneCell'=true) :
    Calls Tryz.prog 58 #[.slice (some ⟨b,off,none⟩) n c,.int .i64 i,.slice (some ⟨vb,voff,none⟩) 1 vc] w fun e w'=>
      e= .returned (.slice (some ⟨w.heap.size,0,none⟩) (n+1) (grownCap w (n+1) c 70))∧
      w'=(((w.alloc (.cells ((cs.take (i*3)).toArray++Builtin.zeroCells #[.int .i64 0,.bool false,.int .i64 0] (n+1 - i)++Builtin.zeroCells #[.int .i64 0,.bool false,.int .i64 0] (grownCap w (n+1) c 70 - (n+1))) 70)).drew.setCells w.heap.size (i*3) vs).drew).setCells w.heap.size ((i+1)*3) (cs.drop (i*3)):=by
  have t0:=Tryz.underlying0;have a0:=Tryz.isAgg0;have z0:=Tryz.sizeOf0;have v0:=Tryz.zeroValue0;have t3:=Tryz.underlying3;have a3:=Tryz.isAgg3;have z3:=Tryz.sizeOf3;have v3:=Tryz.zeroValue3;have t4:=Tryz.underlying4;have a4:=Tryz.isAgg4;have z4:=Tryz.sizeOf4;have v4:=Tryz.zeroValue4;have t41:=Tryz.underlying41;have a41:=Tryz.isAgg41;have z41:=Tryz.sizeOf41;have v41:=Tryz.zeroValue41;have z70:=Tryz.sizeOf70;have a70:=Tryz.isAgg70
  have u0:=run_underlying Tryz.underlying0;have u3:=run_underlying Tryz.underlying3;have u4:=run_underlying Tryz.underlying4;have u41:=run_underlying Tryz.underlying41
  have mixed:=Tryz.mixed
  obtain⟨i0,hi0,hz0,ur,hzb⟩:=info_parts i70
  have hz1:¬ ((1:Int)=0):=by omega
  have hz2:¬ ((i:Int)=(n:Int)):=by omega
  have hz3:(c:Int)<(n:Int)+1:=by omega
  have hbw:b<w.heap.size:=block_lt_of_cell (jh 0 _ (Aoq (by omega)))
  have hvw:vb<w.heap.size:=block_lt_of_cell (fc 0 _ (Aoq (by omega)))
  have hkk:(n:Int)+1 - (i:Int)=((n+1 - i:Nat):Int):=by omega
  have hik:i+(n+1 - i)=n+1:=by omega
  have hold:(Builtin.firstCells i0.size i (.slice (some ⟨b,off,none⟩) i c)).run Tryz.prog w.drew= .ok (cs.take (i*3)).toArray w.drew:=by
    rw[ur]
    exact run_firstCells_some w.drew 3 i ⟨b,off,none⟩ i c (cs.take (i*3)) (by rw[List.length_take];omega) (fun j v hj=>by
      rw[Addr.add_lit]
      rw[List.getElem?_take]at hj
      split at hj
      ·exact jh j v hj
      ·cases hj)
  have hrz:∀ ty,(Builtin.append_ #[41,3] ty #[.slice (some ⟨b,off,none⟩) i c,.int .i64 ((n:Int)+1 - (i:Int))]).run Tryz.prog w =
   .ok (.slice (some ⟨w.heap.size,0,none⟩) (n+1) (grownCap w (n+1) c 70)) (w.drew.alloc (.cells ((cs.take (i*3)).toArray++Builtin.zeroCells #[.int .i64 0,.bool false,.int .i64 0] (n+1 - i)++Builtin.zeroCells #[.int .i64 0,.bool false,.int .i64 0] (grownCap w (n+1) c 70 - (n+1))) 70)):=fun ty=>by
    have h:=Lib.run_append_grow_zeros w 41 3 ty 70 i0 _ .i64 .i64 Tryz.underlying41 Tryz.underlying3 hi0 hz0 (some ⟨b,off,none⟩) i c (cs.take (i*3)) hold (n+1 - i) (by omega) (by omega) (by omega) (by omega) (by rw[hzb];omega) (by rw[hzb,hik];exact growslice_fits er yd)
    rw[hik]at h
    rw[hkk]
    exact h
  obtain⟨G,hG⟩:∃ G,G=grownCap w (n+1) c 70:=⟨_,rfl⟩
  obtain⟨ROW,yh⟩:∃ ROW:Array Value,ROW=(cs.take (i*3)).toArray++Builtin.zeroCells #[.int .i64 0,.bool false,.int .i64 0] (n+1 - i)++Builtin.zeroCells #[.int .i64 0,.bool false,.int .i64 0] (G - (n+1)):=⟨_,rfl⟩
  rw[← hG]at hrz ⊢
  rw[← yh]at hrz ⊢
  have hGn:n+1≤G:=by rw[hG];exact grownCap_ge w _ _ _
  have hRl:(n+1)*3≤ROW.size:=by
    rw[yh]
    simp only[Array.size_append,List.size_toArray,List.length_take,size_zeroCells]
    show _≤_+(n+1 - i)*3+(G - (n+1))*3
    omega
  obtain⟨W1,pa⟩:∃ W1,W1=w.drew.alloc (.cells ROW 70):=⟨_,rfl⟩
  rw[← pa]at hrz
  have hN:∀ j,j<(n+1)*3→(W1.cell? ⟨w.heap.size,j,none⟩).isSome=true:=fun j hj=>by
    rw[pa,World.cell?_alloc_at (w:=w.drew) ROW _ w.heap.size j rfl,Array.getElem?_eq_getElem (by omega)];rfl
  have hNf:∀ j,W1.frozen? ⟨w.heap.size,j,none⟩=false:=fun j=>by rw[pa];exact World.frozen?_alloc_at (w:=w.drew) ROW _ w.heap.size j rfl
  have hOb:∀ j v,w.cell? ⟨b,j,none⟩=some v→W1.cell? ⟨b,j,none⟩=some v:=fun j v h=>by rw[pa,World.cell?_alloc_past (w:=w.drew) _ b j hbw];exact h
  have hOv:∀ j v,w.cell? ⟨vb,j,none⟩=some v→W1.cell? ⟨vb,j,none⟩=some v:=fun j v h=>by rw[pa,World.cell?_alloc_past (w:=w.drew) _ vb j hvw];exact h
  have hcpA:∀ (W:World),(∀ x,W.cell? x=W1.cell? x)→(∀ x,W.frozen? x=W1.frozen? x)→∀ ty dc,(Builtin.copy_ #[41,41] ty #[.slice (some ⟨w.heap.size,i*3,none⟩) (n+1 - i) dc,.slice (some ⟨vb,voff,none⟩) 1 vc]).run Tryz.prog W= .ok (goInt 1) (W.setCells w.heap.size (i*3) vs):=fun W vo hWf ty dc=>by
    have:=Xh (P:=Tryz.prog) W 41 41 ty 70 w.heap.size (i*3) (n+1 - i) dc ⟨vb,voff,none⟩ 1 vc 3 1 vs Tryz.underlying41 s70 (by simp only[Nat.min_def];split<;>omega) (by omega)
      (fun j v hj=>by rw[Addr.add_lit,vo];exact hOv _ v (fc j v hj))
      (fun j hj=>by rw[vo];exact hN _ (by omega)) (fun j hj=>by rw[hWf];exact hNf _) h1v
    exact this
  have hG63:G≤9223372036854775807:=by
    have:=grownCap_le_maxLen w (n+1) c 70 (by unfold maxLen;omega)
    rw[← hG]at this
    unfold maxLen at this
    omega
  have hGi:¬ (G=i):=by omega
  have hGim:¬ (G=i+1):=by omega
  have hci:¬ (c=i):=by omega
  have hbN:b≠w.heap.size:=by omega
  have mq:(cs.drop (i*3)).length=(n - i)*3:=by rw[List.length_drop,et];omega
  have hcpB:∀ (W:World),(∀ x,W.cell? x=(W1.setCells w.heap.size (i*3) vs).cell? x)→(∀ x,W.frozen? x=(W1.setCells w.heap.size (i*3) vs).frozen? x)→∀ ty dc sc,(Builtin.copy_ #[41,41] ty #[.slice (some ⟨w.heap.size,(i+1)*3,none⟩) (n+1 - (i+1)) dc,.slice (some ⟨b,off+i*3,none⟩) (n - i) sc]).run Tryz.prog W= .ok (goInt (n - i:Nat)) (W.setCells w.heap.size ((i+1)*3) (cs.drop (i*3))):=fun W vo hWf ty dc sc=>
    Xh (P:=Tryz.prog) W 41 41 ty 70 w.heap.size ((i+1)*3) (n+1 - (i+1)) dc ⟨b,off+i*3,none⟩ (n - i) sc 3 (n - i) (cs.drop (i*3)) Tryz.underlying41 s70 (by simp only[Nat.min_def];split<;>omega) mq
     (fun j v hj=>by
       rw[Addr.add_lit,vo,World.cell?_setCells_out _ _ _ _ _ (fun h _=>absurd h hbN),Nat.add_assoc]
       exact hOb _ v (jh (i*3+j) v (by rwa [List.getElem?_drop]at hj)))
     (fun j hj=>by rw[vo];exact lQ _ _ _ _ (fun t ht=>hN _ (by omega)) _ (hN _ (by omega)))
     (fun j hj=>by rw[hWf,World.frozen?_setCells];exact hNf _) (fun v hv=>h1c v (List.mem_of_mem_drop hv))
  subst pa
  have hE1:∀ x,((w.alloc (.cells ROW 70)).drew).cell? x=(w.drew.alloc (.cells ROW 70)).cell? x:=fun x=>rfl
  have hE2:∀ x,((w.alloc (.cells ROW 70)).drew).frozen? x=(w.drew.alloc (.cells ROW 70)).frozen? x:=fun x=>rfl
  have hF1:∀ x,(((w.alloc (.cells ROW 70)).drew.setCells w.heap.size (i*3) vs).drew).cell? x=((w.drew.alloc (.cells ROW 70)).setCells w.heap.size (i*3) vs).cell? x:=fun x=>rfl
  have hF2:∀ x,(((w.alloc (.cells ROW 70)).drew.setCells w.heap.size (i*3) vs).drew).frozen? x=((w.drew.alloc (.cells ROW 70)).setCells w.heap.size (i*3) vs).frozen? x:=fun x=>rfl
  have cz:IntKind.i64.wrap ((i:Int)+1)=(i:Int)+1:=by rw[IntKind.wrap_i64];omega
  have td:(0:Int)≤(i:Int)+1:=by omega
  have ij:i≤n:=by omega
  have htn:((i:Int)+1).toNat=i+1:=by omega
  have hb3:(i:Int)≤(n:Int):=by omega
  clear hkk hik hold yh hG hRl
  go_enter Tryz.func58,Tryz.ntmps58
  go_wp2_with (first
    | (at_builtin;refine Lib.wpList_append_run _ rfl _ _ _ _ rfl _ _ rfl rfl _ _ (hrz _) ?_)
    | (at_builtin;refine mL _ rfl _ _ 41 41 rfl _ _ rfl rfl (hcpA _ hE1 hE2 _ _) ?_)
    | (at_builtin;refine mL _ rfl _ _ 41 41 rfl _ _ rfl rfl (hcpB _ (fun _=>rfl) (fun _=>rfl) _ _ _) ?_))
  go_region_law_o (refine r7 rfl _ _ 41 41 rfl (.slice (some ⟨w.heap.size,(i+1)*3,none⟩) (n+1 - (i+1)) (G - (i+1))) (.slice (some ⟨b,off+i*3,none⟩) (n - i) (c - i)) (by simp[Act.eval,Act.put]) (by simp[Act.eval,Act.put]) (hcpB _ hF1 hF2 3 (G - (i+1)) (c - i)) ?_)
  go_wp2
  go_ret
  exact⟨rfl,rfl⟩
set_option maxHeartbeats 4000000 in
set_option maxRecDepth 100000 in
theorem zZ (b off n c i vb voff vc:Nat) (cs vs:List Value) (w:World) (hi:i<n) (er:n+1≤c) (hc63:c≤9223372036854775807) (hvb:vb≠b)
    (et:cs.length=n*3) (lf:vs.length=3)
    (jh:∀ j v,cs[j]? =some v→w.cell? ⟨b,off+j,none⟩=some v) (de:∀ j,j<(n+1)*3→(w.cell? ⟨b,off+j,none⟩).isSome=true) (hfz:∀ j,j<(n+1)*3→w.frozen? ⟨b,off+j,none⟩=false)
    (fc:∀ j v,vs[j]? =some v→w.cell? ⟨vb,voff+j,none⟩=some v) (h1c:∀ v∈cs,v.oneCell'=true) (h1v:∀ v∈vs,v.oneCell'=true)
    (tA tB:TypeId) (kA kB:Nat) (hsa:w.shape? vb=some (tA,kA)) (hsb:w.shape? b=some (tB,kB)) (hkB:kB≠0) (hfa:w.frozen? ⟨vb,voff,none⟩=false) (hfe:w.frozen? ⟨vb,kA,none⟩=false) :
    Calls Tryz.prog 58 #[.slice (some ⟨b,off,none⟩) n c,.int .i64 i,.slice (some ⟨vb,voff,none⟩) 1 vc] w fun e w'=>
      e= .returned (.slice (some ⟨b,off,none⟩) (n+1) c)∧w'=(w.drew.setCells b (off+(i+1)*3) (cs.drop (i*3))).setCells b (off+i*3) vs:=by
  have t0:=Tryz.underlying0;have a0:=Tryz.isAgg0;have z0:=Tryz.sizeOf0;have v0:=Tryz.zeroValue0;have t3:=Tryz.underlying3;have a3:=Tryz.isAgg3;have z3:=Tryz.sizeOf3;have v3:=Tryz.zeroValue3;have t4:=Tryz.underlying4;have a4:=Tryz.isAgg4;have z4:=Tryz.sizeOf4;have v4:=Tryz.zeroValue4;have t41:=Tryz.underlying41;have a41:=Tryz.isAgg41;have z41:=Tryz.sizeOf41;have v41:=Tryz.zeroValue41;have z70:=Tryz.sizeOf70;have a70:=Tryz.isAgg70
  have u0:=run_underlying Tryz.underlying0;have u3:=run_underlying Tryz.underlying3;have u4:=run_underlying Tryz.underlying4;have u41:=run_underlying Tryz.underlying41
  have hz1:¬ ((1:Int)=0):=by omega
  have hz2:¬ ((i:Int)=(n:Int)):=by omega
  have hov:∀ lb cb,(callFunc 142 #[.slice (some ⟨vb,voff,none⟩) 1 vc,.slice (some ⟨b,off+(i+1)*3,none⟩) lb cb]).run Tryz.prog w= .ok (.value (.bool false)) w:=fun lb cb=>by
    rw[run_callFunc_extern Tryz.func142 (by kernel_rfl) (by kernel_rfl) (by kernel_rfl) (e:=Extern.SlicesOverlaps.overlaps #[41,41] #[4]) (by kernel_rfl),
     Lib.run_overlaps_apart w 41 4 70 Tryz.underlying41 3 Tryz.sizeOf70 ⟨vb,voff,none⟩ ⟨b,off+(i+1)*3,none⟩ 1 vc lb cb hvb tA tB kA kB hsa hsb hkB hfa hfe]
    rfl
  have mq:(cs.drop (i*3)).length=(n - i)*3:=by rw[List.length_drop,et];omega
  have mixed:=Tryz.mixed
  have cz:IntKind.i64.wrap ((i:Int)+1)=(i:Int)+1:=by rw[IntKind.wrap_i64];omega
  have cj:IntKind.i64.wrap ((n:Int)+1)=(n:Int)+1:=by rw[IntKind.wrap_i64];omega
  have td:(0:Int)≤(i:Int)+1:=by omega
  have ij:i≤n:=by omega
  have htn:((i:Int)+1).toNat=i+1:=by omega
  have oc:¬ (c=i+1):=by omega
  have hb3:(i:Int)≤(n:Int)+1:=by omega
  have hb4:¬ (c=i):=by omega
  have hcp1:∀ ty dc sc,(Builtin.copy_ #[41,41] ty #[.slice (some ⟨b,off+(i+1)*3,none⟩) (n - i) dc,.slice (some ⟨b,off+i*3,none⟩) (n+1 - i) sc]).run Tryz.prog w.drew= .ok (goInt (n - i:Nat)) (w.drew.setCells b (off+(i+1)*3) (cs.drop (i*3))):=fun ty dc sc=>
    Xh (P:=Tryz.prog) w.drew 41 41 ty 70 b (off+(i+1)*3) (n - i) dc ⟨b,off+i*3,none⟩ (n+1 - i) sc 3 (n - i) (cs.drop (i*3)) Tryz.underlying41 s70 (by simp only[Nat.min_def];split<;>omega) mq
     (fun j v hj=>by rw[Addr.add_lit,Nat.add_assoc];exact jh (i*3+j) v (by rwa [List.getElem?_drop]at hj))
     (fun j hj=>by rw[Nat.add_assoc];exact de _ (by omega)) (fun j hj=>by rw[Nat.add_assoc];exact hfz _ (by omega)) (fun v hv=>h1c v (List.mem_of_mem_drop hv))
  obtain⟨W1,pa⟩:∃ W1,W1=w.drew.setCells b (off+(i+1)*3) (cs.drop (i*3)):=⟨_,rfl⟩
  have hsp1:∀ k,k<(n+1)*3→(W1.cell? ⟨b,off+k,none⟩).isSome=true:=fun k hk=>by
    rw[pa]
    exact lQ b _ _ _ (fun j hj=>by rw[Nat.add_assoc];exact de _ (by omega)) _ (de k hk)
  have hcp2:∀ (W:World),(∀ x,W.cell? x=W1.cell? x)→(∀ x,W.frozen? x=W1.frozen? x)→∀ ty dc,(Builtin.copy_ #[41,41] ty #[.slice (some ⟨b,off+i*3,none⟩) (n+1 - i) dc,.slice (some ⟨vb,voff,none⟩) 1 vc]).run Tryz.prog W= .ok (goInt 1) (W.setCells b (off+i*3) vs):=fun W vo hWf ty dc=>by
    have:=Xh (P:=Tryz.prog) W 41 41 ty 70 b (off+i*3) (n+1 - i) dc ⟨vb,voff,none⟩ 1 vc 3 1 vs Tryz.underlying41 s70 (by simp only[Nat.min_def];split<;>omega) (by omega)
      (fun j v hj=>by
        rw[Addr.add_lit,vo,pa,World.cell?_setCells_out b _ _ _ _ (fun h _=>absurd h hvb)]
        exact fc j v hj)
      (fun j hj=>by rw[vo,Nat.add_assoc];exact hsp1 _ (by omega)) (fun j hj=>by rw[hWf,pa,World.frozen?_setCells,Nat.add_assoc];exact hfz _ (by omega)) h1v
    exact this
  rw[← pa]at hcp1
  go_enter Tryz.func58,Tryz.ntmps58
  go_wp2_with (simp only[hov])
  go_region_law_o (refine r7 rfl _ _ 41 41 rfl _ _ (by simp[Act.eval,Act.put]) (by simp[Act.eval,Act.put]) (hcp1 _ _ _) ?_)
  go_wp2_with (at_builtin;refine mL _ rfl _ _ 41 41 rfl _ _ rfl rfl (hcp2 _ (fun _=>rfl) (fun _=>rfl) _ _) ?_)
  go_ret
  first | exact⟨rfl,rfl⟩ | exact⟨rfl,by rw[pa]⟩
theorem Tryz.inserts58:Go.Ab.nR Tryz.prog 58 70 3 24:=
  ⟨fun b off n c i vb voff vc cs vs w hi hnc er yd et lf jh fc h1c h1v=>(Ab7 b off n c i vb voff vc cs vs w hi hnc er yd et lf jh fc h1c h1v).mono fun ed w' ⟨he,hw⟩=>
    ⟨grownCap w (n+1) c 70,_,he,grownCap_ge _ _ _ _,grownCap_le_maxLen _ _ _ _ (by unfold maxLen;omega),by
      have:=grownCap_ge w (n+1) c 70
      simp only[Array.size_append,List.size_toArray,List.length_take,size_zeroCells]
      show _+(n+1 - i)*3+(_ - (n+1))*3=_
      omega,fun j u hj=>by
      have ah:=(Aoz.1 hj).1
      rw[Array.append_assoc,Array.getElem?_append_left (by simpa using ah)]
      rw[List.getElem?_toArray];exact hj,hw⟩,
   zZ⟩
end Go.Proofs.YtjopghiagoidgaaGreat
set_option linter.all false
namespace Go.Proofs.YtjopghiagoidgaaGreat
open Go Go.Ab Go.Shelf Go.RowKit Go.Sort
def Tryz.lkeys_ren:Go.Shelf.Ren:=⟨fun | 7=>282 | 10=>288 | n=>n,fun | 3=>4 | 23=>205 | 26=>3 | 27=>272 | 28=>273 | 33=>109 | n=>n,fun | n=>n⟩
theorem Tryz.lkeys:SlLaysZI.n7 Tryz.prog Tryz.lkeys_ren:={
  mixed:=by kernel_rfl
  f7:=⟨Tryz.f282.name,by kernel_rfl,Tryz.func282.trans (congrArg some (by kernel_rfl))⟩
  f10:=⟨Tryz.f288.name,by kernel_rfl,Tryz.func288.trans (congrArg some (by kernel_rfl))⟩
  t0:=Tryz.underlying0
  a0:=Tryz.isAgg0
  z0:=Tryz.sizeOf0
  v0:=Tryz.zeroValue0
  t4:=Tryz.underlying4
  a4:=Tryz.isAgg4
  z4:=Tryz.sizeOf4
  v4:=Tryz.zeroValue4
  t23:=Tryz.underlying205
  a23:=Tryz.isAgg205
  z23:=Tryz.sizeOf205
  v23:=Tryz.zeroValue205
  t26:=Tryz.underlying3
  a26:=Tryz.isAgg3
  z26:=Tryz.sizeOf3
  v26:=Tryz.zeroValue3
  t27:=Tryz.underlying272
  a27:=Tryz.isAgg272
  z27:=Tryz.sizeOf272
  v27:=Tryz.zeroValue272
  t28:=Tryz.underlying273
  a28:=Tryz.isAgg273
  z28:=Tryz.sizeOf273
  v28:=Tryz.zeroValue273
  t33:=Tryz.underlying109
  a33:=Tryz.isAgg109
  z33:=Tryz.sizeOf109
  v33:=Tryz.zeroValue109
}
def Tryz.lsorted_ren:Go.Shelf.Ren:=⟨fun | 6=>281 | 8=>287 | 9=>68 | 11=>289 | 12=>148 | 13=>149 | 14=>226 | 15=>227 | 16=>228 | 17=>229 | 18=>230 | 19=>231 | 20=>232 | 21=>233 | 22=>234 | 23=>235 | 24=>236 | 25=>272 | 26=>273 | 27=>274 | 28=>275 | 29=>276 | 30=>277 | 31=>284 | n=>n,fun | 24=>25 | 26=>3 | 28=>273 | 33=>109 | 37=>65 | 39=>231 | 40=>232 | 45=>237 | 48=>240 | 50=>242 | 51=>261 | 55=>265 | 57=>276 | 58=>277 | n=>n,fun | n=>n⟩
theorem Tryz.lsorted:SlLaysZI.n6 Tryz.prog Tryz.lsorted_ren:={
  mixed:=by kernel_rfl
  f6:=⟨Tryz.f281.name,by kernel_rfl,Tryz.func281.trans (congrArg some (by kernel_rfl))⟩
  f8:=⟨Tryz.f287.name,by kernel_rfl,Tryz.func287.trans (congrArg some (by kernel_rfl))⟩
  f11:=⟨Tryz.f289.name,by kernel_rfl,Tryz.func289.trans (congrArg some (by kernel_rfl))⟩
  t0:=Tryz.underlying0
  a0:=Tryz.isAgg0
  z0:=Tryz.sizeOf0
  v0:=Tryz.zeroValue0
  t24:=Tryz.underlying25
  a24:=Tryz.isAgg25
  z24:=Tryz.sizeOf25
  v24:=Tryz.zeroValue25
  t26:=Tryz.underlying3
  a26:=Tryz.isAgg3
  z26:=Tryz.sizeOf3
  v26:=Tryz.zeroValue3
  t28:=Tryz.underlying273
  a28:=Tryz.isAgg273
  z28:=Tryz.sizeOf273
  v28:=Tryz.zeroValue273
  i26:=by kernel_rfl
}
def Tryz.lsort_ren:Go.Shelf.Ren:=⟨fun | 5=>68 | 7=>148 | 8=>149 | 10=>226 | 11=>227 | 12=>228 | 13=>229 | 14=>230 | 15=>231 | 16=>232 | 17=>233 | 18=>234 | 19=>235 | 20=>236 | 30=>272 | 31=>273 | 32=>274 | 33=>275 | 34=>276 | 35=>277 | 40=>284 | n=>n,fun | 22=>25 | 23=>25 | 25=>3 | 32=>65 | 35=>231 | 36=>232 | 41=>237 | 44=>240 | 46=>242 | 53=>261 | 57=>265 | 63=>276 | 64=>277 | n=>n,fun | n=>n⟩
theorem Tryz.lsort:SlLaysM.n5 Tryz.prog Tryz.lsort_ren:={
  mixed:=by kernel_rfl
  f5:=⟨Tryz.f68.name,by kernel_rfl,Tryz.func68.trans (congrArg some (by kernel_rfl))⟩
  f7:=⟨Tryz.f148.name,by kernel_rfl,Tryz.func148.trans (congrArg some (by kernel_rfl))⟩
  f8:=Tryz.func149.trans (congrArg some (by kernel_rfl))
  f10:=⟨Tryz.f226.name,by kernel_rfl,Tryz.func226.trans (congrArg some (by kernel_rfl))⟩
  f11:=⟨Tryz.f227.name,by kernel_rfl,Tryz.func227.trans (congrArg some (by kernel_rfl))⟩
  f12:=⟨Tryz.f228.name,by kernel_rfl,Tryz.func228.trans (congrArg some (by kernel_rfl))⟩
  f13:=⟨Tryz.f229.name,by kernel_rfl,Tryz.func229.trans (congrArg some (by kernel_rfl))⟩
  f14:=⟨Tryz.f230.name,by kernel_rfl,Tryz.func230.trans (congrArg some (by kernel_rfl))⟩
  f15:=⟨Tryz.f231.name,by kernel_rfl,Tryz.func231.trans (congrArg some (by kernel_rfl))⟩
  f16:=⟨Tryz.f232.name,by kernel_rfl,Tryz.func232.trans (congrArg some (by kernel_rfl))⟩
  f17:=⟨Tryz.f233.name,by kernel_rfl,Tryz.func233.trans (congrArg some (by kernel_rfl))⟩
  f18:=⟨Tryz.f234.name,by kernel_rfl,Tryz.func234.trans (congrArg some (by kernel_rfl))⟩
  f19:=Tryz.func235.trans (congrArg some (by kernel_rfl))
  f20:=Tryz.func236.trans (congrArg some (by kernel_rfl))
  f30:=⟨Tryz.f272.name,by kernel_rfl,Tryz.func272.trans (congrArg some (by kernel_rfl))⟩
  f31:=Tryz.func273.trans (congrArg some (by kernel_rfl))
  f32:=Tryz.func274.trans (congrArg some (by kernel_rfl))
  f33:=⟨Tryz.f275.name,by kernel_rfl,Tryz.func275.trans (congrArg some (by kernel_rfl))⟩
  f34:=⟨Tryz.f276.name,by kernel_rfl,Tryz.func276.trans (congrArg some (by kernel_rfl))⟩
  f35:=⟨Tryz.f277.name,by kernel_rfl,Tryz.func277.trans (congrArg some (by kernel_rfl))⟩
  f40:=⟨Tryz.f284.name,by kernel_rfl,Tryz.func284.trans (congrArg some (by kernel_rfl))⟩
  t0:=Tryz.underlying0
  a0:=Tryz.isAgg0
  z0:=Tryz.sizeOf0
  v0:=Tryz.zeroValue0
  t3:=Tryz.underlying3
  a3:=Tryz.isAgg3
  z3:=Tryz.sizeOf3
  v3:=Tryz.zeroValue3
  t4:=Tryz.underlying4
  a4:=Tryz.isAgg4
  z4:=Tryz.sizeOf4
  v4:=Tryz.zeroValue4
  t5:=Tryz.underlying5
  a5:=Tryz.isAgg5
  z5:=Tryz.sizeOf5
  v5:=Tryz.zeroValue5
  t9:=Tryz.underlying9
  a9:=Tryz.isAgg9
  z9:=Tryz.sizeOf9
  v9:=Tryz.zeroValue9
  t22:=Tryz.underlying25
  a22:=Tryz.isAgg25
  z22:=Tryz.sizeOf25
  v22:=Tryz.zeroValue25
  t23:=Tryz.underlying25
  a23:=Tryz.isAgg25
  z23:=Tryz.sizeOf25
  v23:=Tryz.zeroValue25
  t25:=Tryz.underlying3
  a25:=Tryz.isAgg3
  z25:=Tryz.sizeOf3
  v25:=Tryz.zeroValue3
  t32:=Tryz.underlying65
  a32:=Tryz.isAgg65
  z32:=Tryz.sizeOf65
  v32:=Tryz.zeroValue65
  t35:=Tryz.underlying231
  a35:=Tryz.isAgg231
  z35:=Tryz.sizeOf231
  v35:=Tryz.zeroValue231
  t36:=Tryz.underlying232
  a36:=Tryz.isAgg232
  z36:=Tryz.sizeOf232
  v36:=Tryz.zeroValue232
  t41:=Tryz.underlying237
  a41:=Tryz.isAgg237
  z41:=Tryz.sizeOf237
  v41:=Tryz.zeroValue237
  t44:=Tryz.underlying240
  a44:=Tryz.isAgg240
  z44:=Tryz.sizeOf240
  v44:=Tryz.zeroValue240
  t46:=Tryz.underlying242
  a46:=Tryz.isAgg242
  z46:=Tryz.sizeOf242
  v46:=Tryz.zeroValue242
  t53:=Tryz.underlying261
  a53:=Tryz.isAgg261
  z53:=Tryz.sizeOf261
  v53:=Tryz.zeroValue261
  t57:=Tryz.underlying265
  a57:=Tryz.isAgg265
  z57:=Tryz.sizeOf265
  v57:=Tryz.zeroValue265
  t63:=Tryz.underlying276
  a63:=Tryz.isAgg276
  z63:=Tryz.sizeOf276
  v63:=Tryz.zeroValue276
  t64:=Tryz.underlying277
  a64:=Tryz.isAgg277
  z64:=Tryz.sizeOf277
  v64:=Tryz.zeroValue277
}
def Tryz.lcompact_ren:Go.Shelf.Ren:=⟨fun | 20=>69 | n=>n,fun | 22=>25 | n=>n,fun | n=>n⟩
theorem Tryz.lcompact:Lays2.n20 Tryz.prog Tryz.lcompact_ren:={
  mixed:=by kernel_rfl
  f20:=Tryz.func69.trans (congrArg some (by kernel_rfl))
  t0:=Tryz.underlying0
  a0:=Tryz.isAgg0
  z0:=Tryz.sizeOf0
  v0:=Tryz.zeroValue0
  t3:=Tryz.underlying3
  a3:=Tryz.isAgg3
  z3:=Tryz.sizeOf3
  v3:=Tryz.zeroValue3
  t4:=Tryz.underlying4
  a4:=Tryz.isAgg4
  z4:=Tryz.sizeOf4
  v4:=Tryz.zeroValue4
  t22:=Tryz.underlying25
  a22:=Tryz.isAgg25
  z22:=Tryz.sizeOf25
  v22:=Tryz.zeroValue25
  i3:=by kernel_rfl
}
theorem Tryz.sorts68:Ada Tryz.prog 68:=⟨fun blk off cap ss W hH sg cn=>AnyM.slices_Sort_int Tryz.lsort blk off cap ss W hH sg cn,fun p cap W=>AnyM.slices_Sort_int_none Tryz.lsort p cap W⟩
theorem Tryz.lsortsIn (m:Nat):AnyZI.SortsIn Tryz.prog Tryz.lsorted_ren Fence.wide m:=
  ⟨fun blk off cap ss W hH sg cn=>callsIn_wide.2 (AnyM.slices_Sort_int Tryz.lsort blk off cap ss W hH sg cn),
   fun p cap W=>callsIn_wide.2 (AnyM.slices_Sort_int_none Tryz.lsort p cap W)⟩
theorem Tryz.keys282:Aeu Tryz.prog 282 288 205:=⟨fun mb W=>(callsIn_wide (n:=5)).1 (AnyZI.keys_in Tryz.lkeys Fence.wide 5 trivial rfl mb W)⟩
theorem Tryz.sortedKeys281:Z5 Tryz.prog 281 288 3:=⟨Tryz.underlying3,fun b Bm nn D0 R W au hBm hown hmax yc=>by
  refine(callsIn_wide (n:=5)).1 ?_
  have hseq:SeqGives Fence.wide 2 Tryz.prog 288 #[.pointer (some ⟨Bm,0,none⟩)] encZ (fun ss=>ss.Perm (intKeys D0)) (Maps.size D0) W:=
    AnyZI.keys_gives (ρ:=Tryz.lkeys_ren) {Tryz.lkeys with} Fence.wide _ trivial rfl (by omega) Bm b nn D0 W hBm au hown
  have cS:=AnyZI.sorted_in Tryz.lsorted Fence.wide 5 trivial trivial trivial trivial rfl (by omega) (Tryz.lsortsIn _) (enters_of Tryz.func68 (by kernel_rfl) rfl) 288 #[.pointer (some ⟨Bm,0,none⟩)] trivial (enters_of Tryz.func288 (by kernel_rfl) rfl) _ _ hmax yc _ hseq
  change CallsIn _ _ Tryz.prog 281 _ _ _ at cS
  exact cS.mono fun e w' ⟨v,ss,h1,h2,h3,_,h5⟩=>⟨v,ss,h1,h2,h3,h5⟩⟩
theorem Tryz.compacts69:qK Tryz.prog 69:=⟨fun blk off cap zs w h1 h2 h3=>Any.slices_Compact_int Tryz.lcompact blk off cap zs w h1 h2 h3,fun a cap w=>Any.slices_Compact_int_empty Tryz.lcompact a cap w⟩
end Go.Proofs.YtjopghiagoidgaaGreat
namespace Go.Proofs.YtjopghiagoidgaaGreat
open Go Go.Ab
structure Cx where
  ID:Int
  Alt:Int
  deriving DecidableEq,Inhabited
def Bq (x:Cx):List Ac:=[.int .i64 x.ID,.int .i64 x.Alt]
theorem fC (l:List Cx):((l.map Bq).all fun x=>x.all Ac.f0)=true:=by simp[Bq,Ac.f0]
attribute [go_sem] fC
def iY (x:Cx):Prop:=I64 x.ID∧I64 x.Alt
attribute [go_sem] Bq
structure Ck where
  ID:Int
  Operator:Int
  From:Int
  To:Int
  Length:Int
  Speed:Int
  Seats:Int
  Spacing:Int
  deriving DecidableEq,Inhabited
def Bl (x:Ck):List Ac:=[.int .i64 x.ID,.int .i64 x.Operator,.int .i64 x.From,.int .i64 x.To,.int .i64 x.Length,.int .i64 x.Speed,.int .i64 x.Seats,.int .i64 x.Spacing]
theorem fD (l:List Ck):((l.map Bl).all fun x=>x.all Ac.f0)=true:=by simp[Bl,Ac.f0]
attribute [go_sem] fD
def iZ (x:Ck):Prop:=I64 x.ID∧I64 x.Operator∧I64 x.From∧I64 x.To∧I64 x.Length∧I64 x.Speed∧I64 x.Seats∧I64 x.Spacing
attribute [go_sem] Bl
structure Cn where
  ID:Int
  Operator:Int
  From:Int
  To:Int
  Grade:Int
  Zone:Int
  Length:Int
  deriving DecidableEq,Inhabited
def Bj (x:Cn):List Ac:=[.int .i64 x.ID,.int .i64 x.Operator,.int .i64 x.From,.int .i64 x.To,.int .i64 x.Grade,.int .i64 x.Zone,.int .i64 x.Length]
theorem iT (l:List Cn):((l.map Bj).all fun x=>x.all Ac.f0)=true:=by simp[Bj,Ac.f0]
attribute [go_sem] iT
def nQ (x:Cn):Prop:=I64 x.ID∧I64 x.Operator∧I64 x.From∧I64 x.To∧I64 x.Grade∧I64 x.Zone∧I64 x.Length
attribute [go_sem] Bj
structure Av where
  Nodes:List Cx
  Lifts:List Ck
  Runs:List Cn
  Bases:List Int
  deriving DecidableEq,Inhabited
def Be (x:Av):List Ac:=[.sl 2 (x.Nodes.map Bq),.sl 8 (x.Lifts.map Bl),.sl 7 (x.Runs.map Bj),.sl 1 (x.Bases.map An)]
def vJ (x:Av):Prop:=OkL iY x.Nodes∧OkL iZ x.Lifts∧OkL nQ x.Runs∧OkL I64 x.Bases
attribute [go_sem] Be
structure Cv where
  Lift:Int
  Mode:Int
  deriving DecidableEq,Inhabited
def A4 (x:Cv):List Ac:=[.int .i64 x.Lift,.int .i64 x.Mode]
theorem Yg (l:List Cv):((l.map A4).all fun x=>x.all Ac.f0)=true:=by simp[A4,Ac.f0]
attribute [go_sem] Yg
def V0 (x:Cv):Prop:=I64 x.Lift∧I64 x.Mode
attribute [go_sem] A4
structure Bb where
  Kind:Int
  Target:Int
  By:Int
  Since:Int
  deriving DecidableEq,Inhabited
def Ay (x:Bb):List Ac:=[.int .i64 x.Kind,.int .i64 x.Target,.int .i64 x.By,.int .i64 x.Since]
theorem Zy (l:List Bb):((l.map Ay).all fun x=>x.all Ac.f0)=true:=by simp[Ay,Ac.f0]
attribute [go_sem] Zy
def Xs (x:Bb):Prop:=I64 x.Kind∧I64 x.Target∧I64 x.By∧I64 x.Since
attribute [go_sem] Ay
structure Fm where
  Item:Int
  By:Int
  At:Int
  deriving DecidableEq,Inhabited
def Cw (x:Fm):List Ac:=[.int .i64 x.Item,.int .i64 x.By,.int .i64 x.At]
theorem fB (l:List Fm):((l.map Cw).all fun x=>x.all Ac.f0)=true:=by simp[Cw,Ac.f0]
attribute [go_sem] fB
def iX (x:Fm):Prop:=I64 x.Item∧I64 x.By∧I64 x.At
attribute [go_sem] Cw
structure Ba where
  Items:List Int
  Every:Int
  Signs:List Fm
  deriving DecidableEq,Inhabited
def B4 (x:Ba):List Ac:=[.sl 1 (x.Items.map An),.int .i64 x.Every,.sl 3 (x.Signs.map Cw)]
def Z8 (x:Ba):Prop:=OkL I64 x.Items∧I64 x.Every∧OkL iX x.Signs
attribute [go_sem] B4
structure Cg where
  Run:Int
  List_:Ba
  deriving DecidableEq,Inhabited
def A3 (x:Cg):List Ac:=[.int .i64 x.Run,.sl 1 (x.List_.Items.map An),.int .i64 x.List_.Every,.sl 3 (x.List_.Signs.map Cw)]
theorem eT (l:List Cg) (a0:Int) (a1:List Int) (a2:Int) (a3:List Fm):l.map A3++[[.int .i64 a0,.sl 1 (a1.map An),.int .i64 a2,.sl 3 (a3.map Cw)]]=(l++[(Cg.mk a0 (Ba.mk a1 a2 a3))]).map A3:=by simp[A3]
def Xp (x:Cg):Prop:=I64 x.Run∧Z8 x.List_
attribute [go_sem] A3 eT
structure C5 where
  ID:Int
  Run:Int
  At:Int
  deriving DecidableEq,Inhabited
def Bg (x:C5):List Ac:=[.int .i64 x.ID,.int .i64 x.Run,.int .i64 x.At]
theorem bG (l:List C5):((l.map Bg).all fun x=>x.all Ac.f0)=true:=by simp[Bg,Ac.f0]
attribute [go_sem] bG
def Z7 (x:C5):Prop:=I64 x.ID∧I64 x.Run∧I64 x.At
attribute [go_sem] Bg
structure Bk where
  Ci:List Cg
  Hazards:List C5
  deriving DecidableEq,Inhabited
def Cf (x:Bk):List Ac:=[.sl 4 (x.Ci.map A3),.sl 3 (x.Hazards.map Bg)]
def j3 (x:Bk):Prop:=OkL Xp x.Ci∧OkL Z7 x.Hazards
attribute [go_sem] Cf
structure C7 where
  Run:Int
  Groomed:Int
  Traffic:Int
  deriving DecidableEq,Inhabited
def Bd (x:C7):List Ac:=[.int .i64 x.Run,.int .i64 x.Groomed,.int .i64 x.Traffic]
theorem Zu (l:List C7):((l.map Bd).all fun x=>x.all Ac.f0)=true:=by simp[Bd,Ac.f0]
attribute [go_sem] Zu
def Xn (x:C7):Prop:=I64 x.Run∧I64 x.Groomed∧I64 x.Traffic
attribute [go_sem] Bd
structure Fo where
  Natural:Int
  Machine:Int
  Density:Int
  deriving DecidableEq,Inhabited
def Nw (x:Fo):List Ac:=[.int .i64 x.Natural,.int .i64 x.Machine,.int .i64 x.Density]
def qG (x:Fo):Prop:=I64 x.Natural∧I64 x.Machine∧I64 x.Density
attribute [go_sem] Nw
structure Ct where
  Run:Int
  Area:Int
  Pack:Fo
  deriving DecidableEq,Inhabited
def A6 (x:Ct):List Ac:=[.int .i64 x.Run,.int .i64 x.Area,.int .i64 x.Pack.Natural,.int .i64 x.Pack.Machine,.int .i64 x.Pack.Density]
theorem Zv (l:List Ct):((l.map A6).all fun x=>x.all Ac.f0)=true:=by simp[A6,Ac.f0]
attribute [go_sem] Zv
def Xo (x:Ct):Prop:=I64 x.Run∧I64 x.Area∧qG x.Pack
attribute [go_sem] A6
structure Aw where
  ID:Int
  Zones:List Int
  Lifts:List Int
  Limit:Int
  Load:Int
  Controlled:Int
  deriving DecidableEq,Inhabited
def Az (x:Aw):List Ac:=[.int .i64 x.ID,.sl 1 (x.Zones.map An),.sl 1 (x.Lifts.map An),.int .i64 x.Limit,.int .i64 x.Load,.int .i64 x.Controlled]
theorem kU (l:List Aw) (a0:Int) (a1:List Int) (a2:List Int) (a3:Int) (a4:Int) (a5:Int):l.map Az++[[.int .i64 a0,.sl 1 (a1.map An),.sl 1 (a2.map An),.int .i64 a3,.int .i64 a4,.int .i64 a5]]=(l++[(Aw.mk a0 a1 a2 a3 a4 a5)]).map Az:=by simp[Az]
def dF (x:Aw):Prop:=I64 x.ID∧OkL I64 x.Zones∧OkL I64 x.Lifts∧I64 x.Limit∧I64 x.Load∧I64 x.Controlled
attribute [go_sem] Az kU
structure Hb where
  From:Int
  To:Int
  deriving DecidableEq,Inhabited
def Uc (x:Hb):List Ac:=[.int .i64 x.From,.int .i64 x.To]
def V1 (x:Hb):Prop:=I64 x.From∧I64 x.To
attribute [go_sem] Uc
structure A2 where
  Version:Int
  Span:Hb
  Low:Int
  High:Int
  Zones:List Int
  Level:Int
  deriving DecidableEq,Inhabited
def Ap (x:A2):List Ac:=[.int .i64 x.Version,.int .i64 x.Span.From,.int .i64 x.Span.To,.int .i64 x.Low,.int .i64 x.High,.sl 1 (x.Zones.map An),.int .i64 x.Level]
theorem cY (l:List A2) (a0:Int) (a1:Int) (a2:Int) (a3:Int) (a4:Int) (a5:List Int) (a6:Int):l.map Ap++[[.int .i64 a0,.int .i64 a1,.int .i64 a2,.int .i64 a3,.int .i64 a4,.sl 1 (a5.map An),.int .i64 a6]]=(l++[(A2.mk a0 (Hb.mk a1 a2) a3 a4 a5 a6)]).map Ap:=by simp[Ap]
def V2 (x:A2):Prop:=I64 x.Version∧V1 x.Span∧I64 x.Low∧I64 x.High∧OkL I64 x.Zones∧I64 x.Level
attribute [go_sem] Ap cY
structure A5 where
  ID:Int
  Slide:Int
  By:Int
  State:Int
  Since:Int
  Window:Hb
  deriving DecidableEq,Inhabited
def Aq (x:A5):List Ac:=[.int .i64 x.ID,.int .i64 x.Slide,.int .i64 x.By,.int .i64 x.State,.int .i64 x.Since,.int .i64 x.Window.From,.int .i64 x.Window.To]
theorem Zw (l:List A5):((l.map Aq).all fun x=>x.all Ac.f0)=true:=by simp[Aq,Ac.f0]
attribute [go_sem] Zw
def Xq (x:A5):Prop:=I64 x.ID∧I64 x.Slide∧I64 x.By∧I64 x.State∧I64 x.Since∧V1 x.Window
attribute [go_sem] Aq
structure Am where
  Groomer:Int
  From:Int
  To:Int
  Runs:List Int
  deriving DecidableEq,Inhabited
def Aj (x:Am):List Ac:=[.int .i64 x.Groomer,.int .i64 x.From,.int .i64 x.To,.sl 1 (x.Runs.map An)]
theorem bB (l:List Am) (a0:Int) (a1:Int) (a2:Int) (a3:List Int):l.map Aj++[[.int .i64 a0,.int .i64 a1,.int .i64 a2,.sl 1 (a3.map An)]]=(l++[(Am.mk a0 a1 a2 a3)]).map Aj:=by simp[Aj]
def Uk (x:Am):Prop:=I64 x.Groomer∧I64 x.From∧I64 x.To∧OkL I64 x.Runs
attribute [go_sem] Aj bB
structure B3 where
  ID:Int
  Node:Int
  Fuel:Int
  State:Int
  To:Int
  Run:Int
  Until:Int
  Winch:Bool
  deriving DecidableEq,Inhabited
def A7 (x:B3):List Ac:=[.int .i64 x.ID,.int .i64 x.Node,.int .i64 x.Fuel,.int .i64 x.State,.int .i64 x.To,.int .i64 x.Run,.int .i64 x.Until,.bool x.Winch]
theorem Zx (l:List B3):((l.map A7).all fun x=>x.all Ac.f0)=true:=by simp[A7,Ac.f0]
attribute [go_sem] Zx
def Xr (x:B3):Prop:=I64 x.ID∧I64 x.Node∧I64 x.Fuel∧I64 x.State∧I64 x.To∧I64 x.Run∧I64 x.Until∧True
attribute [go_sem] A7
structure Au where
  Run:Int
  Open:Bool
  Since:Int
  deriving DecidableEq,Inhabited
def Ax (x:Au):List Ac:=[.int .i64 x.Run,.bool x.Open,.int .i64 x.Since]
theorem iM (l:List Au) (a0:Int) (a1:Bool) (a2:Int):l.map Ax++[[.int .i64 a0,.bool a1,.int .i64 a2]]=(l++[(Au.mk a0 a1 a2)]).map Ax:=by simp[Ax]
theorem iL (l:List Au) (i:Nat) (a0:Int) (a1:Bool) (a2:Int):(l.map Ax).set i [.int .i64 a0,.bool a1,.int .i64 a2]=(l.set i (Au.mk a0 a1 a2)).map Ax:=by simp[Ax]
def Z6 (x:Au):Prop:=I64 x.Run∧True∧I64 x.Since
attribute [go_sem] Ax iM iL
structure Af where
  Map:Av
  Lifts:List Cv
  Closures:List Bb
  Patrol:Bk
  Surfaces:List C7
  Packs:List Ct
  Slides:List Aw
  Bulletin:List A2
  Missions:List A5
  Winches:List Am
  Groomers:List B3
  Status:List Au
  Depth:Int
  Time:Int
  deriving DecidableEq,Inhabited
def Ai (x:Af):List Ac:=[.sl 2 (x.Map.Nodes.map Bq),.sl 8 (x.Map.Lifts.map Bl),.sl 7 (x.Map.Runs.map Bj),.sl 1 (x.Map.Bases.map An),.sl 2 (x.Lifts.map A4),.sl 4 (x.Closures.map Ay),.sl 4 (x.Patrol.Ci.map A3),.sl 3 (x.Patrol.Hazards.map Bg),.sl 3 (x.Surfaces.map Bd),.sl 5 (x.Packs.map A6),.sl 6 (x.Slides.map Az),.sl 7 (x.Bulletin.map Ap),.sl 7 (x.Missions.map Aq),.sl 4 (x.Winches.map Aj),.sl 8 (x.Groomers.map A7),.sl 3 (x.Status.map Ax),.int .i64 x.Depth,.int .i64 x.Time]
def Ul (x:Af):Prop:=vJ x.Map∧OkL V0 x.Lifts∧OkL Xs x.Closures∧j3 x.Patrol∧OkL Xn x.Surfaces∧OkL Xo x.Packs∧OkL dF x.Slides∧OkL V2 x.Bulletin∧OkL Xq x.Missions∧OkL Uk x.Winches∧OkL Xr x.Groomers∧OkL Z6 x.Status∧I64 x.Depth∧I64 x.Time
attribute [go_sem] Ai
structure Ar where
  ID:Int
  From:Int
  To:Int
  Cost:Int
  deriving DecidableEq,Inhabited
def Bf (x:Ar):List Ac:=[.int .i64 x.ID,.int .i64 x.From,.int .i64 x.To,.int .i64 x.Cost]
theorem nE (l:List Ar) (a0:Int) (a1:Int) (a2:Int) (a3:Int):l.map Bf++[[.int .i64 a0,.int .i64 a1,.int .i64 a2,.int .i64 a3]]=(l++[(Ar.mk a0 a1 a2 a3)]).map Bf:=by simp[Bf]
theorem nD (l:List Ar) (i:Nat) (a0:Int) (a1:Int) (a2:Int) (a3:Int):(l.map Bf).set i [.int .i64 a0,.int .i64 a1,.int .i64 a2,.int .i64 a3]=(l.set i (Ar.mk a0 a1 a2 a3)).map Bf:=by simp[Bf]
theorem fE (l:List Ar):((l.map Bf).all fun x=>x.all Ac.f0)=true:=by simp[Bf,Ac.f0]
attribute [go_sem] fE
attribute [go_sem] Bf nE nD
structure Ny where
  kind:Int
  target:Int
  by_:Int
  deriving DecidableEq,Inhabited
def Q8 (x:Ny):List Ac:=[.int .i64 x.kind,.int .i64 x.target,.int .i64 x.by_]
attribute [go_sem] Q8
attribute [go_sem] Nat.reduceAdd Nat.reduceMul Nat.reduceSub Int.reduceToNat
def Kf (x:List Ar):List Ac:=[.sl 4 (x.map Bf)]
attribute [go_sem] Kf
end Go.Proofs.YtjopghiagoidgaaGreat
namespace Go.Proofs.YtjopghiagoidgaaGreat
open Go Go.Ab
attribute [local irreducible] AWP Ah Br Ad Go.Ab.Sub alist dlist A1 Dg Ev Ho
set_option maxRecDepth 100000
set_option maxHeartbeats 4000000
set_option linter.unusedSimpArgs false
set_option linter.unusedVariables false
noncomputable section
def Vt:Option (Af):=
 some (Af.mk (Av.mk [(Cx.mk 1 1000),(Cx.mk 2 2000),(Cx.mk 3 1500)] [(Ck.mk 1 1 1 2 1000 5000 4 50)] [(Cn.mk 1 1 2 3 2 1 800),(Cn.mk 2 1 3 1 2 1 800)] [(1:Int)]) [(Cv.mk 1 1)] [] (Bk.mk [(Cg.mk 1 (Ba.mk [] 60 [])),(Cg.mk 2 (Ba.mk [] 60 []))] []) [] [(Ct.mk 1 100 (Fo.mk 0 450 450)),(Ct.mk 2 100 (Fo.mk 0 450 450))] [] [] [] [] [] [] 300 0)
theorem cU {r:Af} (h:Vt=some r):Ad Tryz.prog 36 [] (·= .agg (Ai r)):=by
 refine Ad.nle (Ad.intro Tryz.func36 rfl rfl (by show _≤28;simp) ?_)
 unfold Vt at h
 refine nS (sq ?_)
 refine gw7 rfl ?_
 refine gw7 rfl ?_
 refine gw3 rfl ?_
 refine AWP.sub (Sub.denil 7 ([(Cg.mk (1:Int) (Ba.mk [] (60:Int) [])),(Cg.mk (2:Int) (Ba.mk [] (60:Int) []))].map A3) rfl (by simp +decide -implicitDefEqProofs only[go_sem,Et,Ac.int.injEq,Int.natCast_zero,List.replicate_zero,List.length_take,List.length_drop,Ac.own.injEq,reduceCtorEq,Int.reduceAdd,Wp,Wq,Sf,Wo,Se,Abs,Se,Sf])) ?_
 refine nS (rt ?_)
 cases h;exact en Tryz.results36
def Yk (id_:Int) (k0:Nat) (ab:Cn) (sv:Unit):Option (Out (Unit) (Cn×Bool)):=
 (bif (decide (ab.ID=id_))then some (Out.ret (ab,true))else some (Out.next ()))
def E9 (m:Av) (id_:Int):Option (Cn×Bool):=
 (Al (Yk id_) 0 m.Runs ()).bind fun o0=>o0.on fun s0=>some ((Cn.mk 0 0 0 0 0 0 0),false)
theorem Eh (m:Av) (id_:Int) {r:Cn×Bool} (h:E9 m id_=some r):Ad Tryz.prog 53 [.agg (Be m),.int .i64 id_] (·= .tuple [.agg (Bj r.1),.bool r.2]):=by
 refine Ad.nle (Ad.intro Tryz.func53 rfl rfl (by show _≤22;simp) ?_)
 unfold E9 at h
 refine nS (sq ?_)
 refine B5 rfl ?_
 refine rg rfl fun K j=>?_
 intro hm
 refine j _ _ (qn (bk ?_))
 obtain⟨o0,aa,ae⟩:=Ae h
 clear h
 refine AWP.Bh aa () (fun zz=>[(1,.int .i64 id_),(4,.ptr 1 0),(9,.sl 7 (m.Runs.map Bj)),(10,.int .i64 ((m.Runs.length:Nat):Int)),(11,.int .i64 ((zz.1:Nat):Int))]) (fun zz=>[.gone,.box [.int .i64 0,.int .i64 0,.int .i64 0,.int .i64 0,.int .i64 0,.int .i64 0,.int .i64 0]]) ?_
 rintro k0 ⟨⟩ ⟨⟩ bb aa
 dsimp only
 refine Cy rfl ?_
 refine cD rfl ?_ ?_<;>intro hc
 ·obtain rfl:=fnD aa hc
  have h:=Ao ae;try dsimp only at h
  have af:=leD bb hc
  subst af
  refine Cr rfl ?_
  cases h;exact en Tryz.results53
 obtain⟨ab,b0,ag,bh,ao,h,aa⟩:=fcD aa hc
 have ay:=wk (k:=k0) (by omega)
 unfold Yk at h;try dsimp only at h
 refine gw9 (rG rfl fun K j=>?_)
 refine A1.of (f:=Bj) (l:=m.Runs) ao ?_
 refine nS ?_
 refine j (B8 rfl ?_)
 refine cA h rfl ?_ ?_<;>intro hc h
 ·refine Cs rfl ?_
  cases x0 h aa ae;exact en Tryz.results53
 refine gw5 rfl ?_
 refine lE ag aa h () ?_ ?_<;>exact cuw ay
def L0 (k2:Nat) (aw:Au) (sv:(List Int)):Option (Out ((List Int)) ((List Int))):=
 (bif aw.Open then chk (sv.length+1) (some (Out.next (sv++[aw.Run])))else some (Out.next sv))
def D9 (f_:Af):Option ((List Int)):=
 (Al L0 0 f_.Status []).bind fun o2=>o2.on fun s2=>some s2
theorem Sp (f_:Af) {r:(List Int)} (h:D9 f_=some r):A8 Tryz.prog 20 [.agg (Ai f_)] (·= .sl 1 (r.map An)):=by
 refine A8.nle (A8.intro Tryz.func20 rfl rfl (by show _≤22;simp) ?_)
 unfold D9 at h
 refine nS (sq ?_)
 refine gw7 rfl ?_
 refine B5 rfl ?_
 refine rg rfl fun K j=>?_
 intro hm
 refine j _ _ (qn (bk ?_))
 refine AWP.ghost 3 1 rfl (by decide) ?_
 obtain⟨o2,aj,dn⟩:=Ae h
 clear h
 refine AWP.Bh aj (0:Nat) (fun zz=>[(3,.own 1 zz.2.2 0 zz.2.1.length),(7,.sl 3 (f_.Status.map Ax)),(8,.int .i64 ((f_.Status.length:Nat):Int)),(9,.int .i64 ((zz.1:Nat):Int))]) (fun zz=>[.gone,.row zz.2.2 1 (zz.2.1.map An)]) ?_
 rintro k2 bx bg df aj
 dsimp only
 refine Cy rfl ?_
 refine cD rfl ?_ ?_<;>intro hc
 ·obtain rfl:=fnD aj hc
  have h:=Ao dn;try dsimp only at h
  have af:=leD df hc
  subst af
  refine Cr rfl ?_
  cases h;exact en Tryz.results20
 obtain⟨aw,b2,az,fo,ep,h,aj⟩:=fcD aj hc
 have cj:=wk (k:=k2) (by omega)
 unfold L0 at h;try dsimp only at h
 refine gw9 (rG rfl fun K j=>?_)
 refine A1.of (f:=Ax) (l:=f_.Status) ep ?_
 refine nS ?_
 refine j (B8 rfl ?_)
 refine cA h rfl ?_ ?_<;>intro hc h
 ·refine rg rfl fun K j=>?_
  obtain⟨hk,h⟩:=Bc h
  (repeat refine rp ?_);try simp +decide -implicitDefEqProofs only[go_sem]
  refine j _ _ (Eo rfl ?_)
  refine lE az aj h (bg+1) ?_ ?_<;>exact cuw cj
 refine gw5 rfl ?_
 refine lE az aj h bg ?_ ?_<;>exact cuw cj
theorem Nv (f_:Af) {r:(List Int)} (h:D9 f_=some r):Ad Tryz.prog 20 [.agg (Ai f_)] (·= .sl 1 (r.map An)):=(Sp f_ h).pure
theorem eK (f_:Af) {r:(List Int)} (h:D9 f_=some r):Dm Tryz.prog 20 [.agg (Ai f_)] 1 (r.map An):=by
 refine Dm.of ?_
 refine C0.weak (R:=fun q H=>∃ v0 rest,q= .own 0 v0 0 (r.map An).length∧H= .row v0 1 (r.map An)::rest) (C0.intro Tryz.func20 rfl rfl (by show _≤22;simp) ?_) (fun q H hq=>?_)
 ·unfold D9 at h
  refine nS (sq ?_)
  refine gw7 rfl ?_
  refine B5 rfl ?_
  refine rg rfl fun K j=>?_
  intro hm
  refine j _ _ (qn (bk ?_))
  refine AWP.ghost 3 1 rfl (by decide) ?_
  obtain⟨o2,aj,dn⟩:=Ae h
  clear h
  refine AWP.Bh aj (0:Nat) (fun zz=>[(3,.own 1 zz.2.2 0 zz.2.1.length),(7,.sl 3 (f_.Status.map Ax)),(8,.int .i64 ((f_.Status.length:Nat):Int)),(9,.int .i64 ((zz.1:Nat):Int))]) (fun zz=>[.gone,.row zz.2.2 1 (zz.2.1.map An)]) ?_
  rintro k2 bx bg df aj
  dsimp only
  refine Cy rfl ?_
  refine cD rfl ?_ ?_<;>intro hc
  ·obtain rfl:=fnD aj hc
   have h:=Ao dn;try dsimp only at h
   have af:=leD df hc
   subst af
   refine gw4 (B8 rfl ?_)
   refine AWP.sub (Sub.swap 1 0 rfl rfl rfl) ?_
   refine nS (rt ?_)
   obtain rfl:=Aa h
   refine nSc Tryz.results20 ?_
   refine⟨_,_,?_,rfl⟩
   (try simp +decide -implicitDefEqProofs only[go_sem,Aow,Aou,List.length_cons,List.length_nil,List.length_set,Aov]);try rfl
  obtain⟨aw,b2,az,fo,ep,h,aj⟩:=fcD aj hc
  have cj:=wk (k:=k2) (by omega)
  unfold L0 at h;try dsimp only at h
  refine gw9 (rG rfl fun K j=>?_)
  refine A1.of (f:=Ax) (l:=f_.Status) ep ?_
  refine nS ?_
  refine j (B8 rfl ?_)
  refine cA h rfl ?_ ?_<;>intro hc h
  ·refine rg rfl fun K j=>?_
   obtain⟨hk,h⟩:=Bc h
   (repeat refine rp ?_);try simp +decide -implicitDefEqProofs only[go_sem]
   refine j _ _ (Eo rfl ?_)
   refine lE az aj h (bg+1) ?_ ?_<;>exact cuw cj
  refine gw5 rfl ?_
  refine lE az aj h bg ?_ ?_<;>exact cuw cj
 obtain⟨v0,rest,rfl,rfl⟩:=hq
 refine⟨[.row v0 1 (r.map An)],?_,?_,?_,⟨v0,rfl,rfl⟩⟩
 all_goals exact cu
def E6 (v:Int) (k0:Nat) (ab:Int) (sv:Unit):Option (Out (Unit) (Int)):=
 (bif (decide (v=ab))then some (Out.ret ((k0:Nat):Int))else some (Out.next ()))
def Gm (s_:List Int) (v:Int):Option (Int):=
 (Al (E6 v) 0 s_ ()).bind fun o0=>o0.on fun s0=>some (-1)
theorem Tf (s_:List Int) (v:Int) {r:Int} (h:Gm s_ v=some r):Ad Tryz.prog 121 [.sl 1 (s_.map An),.int .i64 v] (·= .int .i64 r):=by
 refine Ad.nle (Ad.intro Tryz.func121 rfl rfl (by show _≤19;simp) ?_)
 unfold Gm at h
 refine nS (sq ?_)
 refine B5 rfl ?_
 refine rg rfl fun K j=>?_
 intro hm
 refine j _ _ (qn (bk ?_))
 obtain⟨o0,aa,ae⟩:=Ae h
 clear h
 refine AWP.Bh aa () (fun zz=>[(0,.sl 1 (s_.map An)),(1,.int .i64 v),(7,.int .i64 ((s_.length:Nat):Int)),(8,.int .i64 ((zz.1:Nat):Int))]) (fun zz=>[]) ?_
 rintro k0 ⟨⟩ ⟨⟩ bb aa
 dsimp only
 refine Cy rfl ?_
 refine cD rfl ?_ ?_<;>intro hc
 ·obtain rfl:=fnD aa hc
  have h:=Ao ae;try dsimp only at h
  have af:=leD bb hc
  subst af
  refine Cr rfl ?_
  cases h;exact en Tryz.results121
 obtain⟨ab,b0,ag,bh,ao,h,aa⟩:=fcD aa hc
 have ay:=wk (k:=k0) (by omega)
 unfold E6 at h;try dsimp only at h
 refine gw9 (Cy rfl ?_)
 refine rg rfl fun K j=>?_
 refine A1.of (f:=An) (l:=s_) ao ?_
 refine nS ?_
 refine j _ _ (qn (cA h rfl ?_ ?_))<;>intro hc h
 ·refine Cs rfl ?_
  cases x0 h aa ae;exact en Tryz.results121
 refine gw5 rfl ?_
 refine lE ag aa h () ?_ ?_<;>exact cuw ay
def Bo (s_:List Int) (v:Int):Option (Bool):=
 (Gm s_ v).bind fun y1=>some (decide (0≤y1))
theorem Bt (s_:List Int) (v:Int) {r:Bool} (h:Bo s_ v=some r):Ad Tryz.prog 54 [.sl 1 (s_.map An),.int .i64 v] (·= .bool r):=by
 refine Ad.nle (Ad.intro Tryz.func54 rfl rfl (by show _≤9;simp) ?_)
 unfold Bo at h
 refine nS (sq ?_)
 refine gw7 rfl ?_
 refine rg rfl fun K j=>?_
 obtain⟨y1,bp,h⟩:=Ae h
 refine Ah.pure Tryz.call121 (Tf s_ v bp) rfl fun _ hr=>?_
 subst hr
 refine nS ?_
 refine j _ _ (Cu ?_)
 cases h;exact en Tryz.results54
def Pv (kind:Int) (target:Int) (k0:Nat) (ab:Bb) (sv:Unit):Option (Out (Unit) (Bool)):=
 (bif (decide (ab.Kind=kind))then (bif (decide (ab.Target=target))then some (Out.ret (decide (0≤((k0:Nat):Int))))else some (Out.next ()))else some (Out.next ()))
def H6 (l:List Bb) (kind:Int) (target:Int):Option (Bool):=
 (Al (Pv kind target) 0 l ()).bind fun o0=>o0.on fun s0=>some false
theorem Sq (l:List Bb) (kind:Int) (target:Int) {r:Bool} (h:H6 l kind target=some r):Ad Tryz.prog 198 [.sl 4 (l.map Ay),.int .i64 kind,.int .i64 target] (·= .bool r):=by
 refine Ad.nle (Ad.intro Tryz.func198 rfl rfl (by show _≤10;simp) ?_)
 unfold H6 at h
 refine nS (sq ?_)
 refine gw7 rfl ?_
 refine rg rfl fun K j=>?_
 refine Ah.inline Tryz.call259 Tryz.func259 rfl rfl (by show _≤9;simp) ?_
 refine nS (sq ?_)
 refine gw7 rfl ?_
 refine rg rfl fun K j=>?_
 refine Ah.inline Tryz.call239 Tryz.func239 rfl rfl (by show _≤19;simp) ?_
 refine nS (sq ?_)
 refine B5 rfl ?_
 refine rg rfl fun K j=>?_
 intro hm
 refine j _ _ (qn (bk ?_));clear j K
 obtain⟨o0,aa,ae⟩:=Ae h
 clear h
 refine AWP.Bh aa () (fun zz=>[(0,.sl 4 (l.map Ay)),(1,.func 260 [.ptr 0 0,.ptr 1 0]),(7,.int .i64 ((l.length:Nat):Int)),(8,.int .i64 ((zz.1:Nat):Int))]) (fun zz=>[.box [.int .i64 kind],.box [.int .i64 target]]) ?_
 rintro k0 ⟨⟩ ⟨⟩ bb aa
 dsimp only
 refine Cy rfl ?_
 refine cD rfl ?_ ?_<;>intro hc
 ·obtain rfl:=fnD aa hc
  have h:=Ao ae;try dsimp only at h
  have af:=leD bb hc
  subst af
  refine Cr rfl ?_
  refine nSc Tryz.results239 ?_
  refine j _ _ (qn (rt ?_));clear j K
  refine nSc Tryz.results259 ?_
  refine j _ _ (Cu ?_)
  cases h;exact en Tryz.results198
 obtain⟨ab,b0,ag,bh,ao,h,aa⟩:=fcD aa hc
 have ay:=wk (k:=k0) (by omega)
 unfold Pv at h;try dsimp only at h
 refine gw9 (Cy rfl ?_)
 refine rg rfl fun K j=>?_
 refine A1.of (f:=Ay) (l:=l) ao ?_
 refine nS ?_
 refine Ah.inline Tryz.call260 Tryz.func260 rfl rfl (by show _≤15;simp) ?_
 refine nS (sq ?_)
 refine gw7 rfl ?_
 refine rg rfl fun K j=>?_
 refine gT h ?_ ?_<;>intro hc h
 ·refine j _ _ (qn (rt ?_));clear j K
  refine nSc Tryz.results260 ?_
  refine j _ _ (qn ?_);clear j K
  refine cA h rfl ?_ ?_<;>intro hc h
  ·refine gw1 rfl (br (qr (qr ?_)))
   replace h:=x0 h aa ae
   refine br (qr (nSc Tryz.results239 ?_))
   refine j _ _ (qn (rt ?_));clear j K
   refine nSc Tryz.results259 ?_
   refine j _ _ (Cu ?_)
   cases h;exact en Tryz.results198
  refine gw5 rfl ?_
  refine lE ag aa h () ?_ ?_<;>exact cuw ay
 refine j _ _ (qn (rt ?_));clear j K
 refine nSc Tryz.results260 ?_
 refine j _ _ (qn ?_);clear j K
 refine cf rfl (gw5 rfl ?_)
 refine lE ag aa h () ?_ ?_<;>exact cuw ay
def Rz (m:Av) (l:List Bb) (run:Int):Option (Bool):=
 (E9 m run).bind fun y1=>(bif y1.2 then(H6 l 1 run).bind fun y2=>(bif y2 then some true else(H6 l 3 y1.1.Zone).bind fun y3=>some y3)else some false)
theorem iO (m:Av) (l:List Bb) (run:Int) {r:Bool} (h:Rz m l run=some r):Ad Tryz.prog 102 [.agg (Be m),.sl 4 (l.map Ay),.int .i64 run] (·= .bool r):=by
 refine Ad.nle (Ad.intro Tryz.func102 rfl rfl (by show _≤27;simp) ?_)
 unfold Rz at h
 refine nS (sq ?_)
 refine gw7 rfl ?_
 refine rg rfl fun K j=>?_
 obtain⟨y1,bp,h⟩:=Ae h
 refine Ah.pure Tryz.call53 (Eh m run bp) rfl fun _ hr=>?_
 subst hr
 refine nS ?_
 refine j _ _ (qn (rG rfl fun K j=>?_))
 refine gT h ?_ ?_<;>intro hc h
 ·obtain⟨y2,cx,h⟩:=Ae h
  refine Ah.pure Tryz.call198 (Sq l 1 run cx) rfl fun _ hr=>?_
  subst hr
  refine nS ?_
  refine gF h ?_ ?_<;>intro hc h
  ·obtain⟨y3,bu,h⟩:=Ae h
   refine Ah.pure Tryz.call198 (Sq l 3 y1.1.Zone bu) rfl fun _ hr=>?_
   subst hr
   refine nS ?_
   refine j (rt ?_)
   cases h;exact en Tryz.results102
  refine j (rt ?_)
  cases h;exact en Tryz.results102
 refine j (rt ?_)
 cases h;exact en Tryz.results102
def Vw (run:Int) (k0:Nat) (ab:B3) (sv:Unit):Option (Out (Unit) (Bool)):=
 (bif (decide (ab.State=2))then (bif (decide (ab.Run=run))then some (Out.ret (decide (0≤((k0:Nat):Int))))else some (Out.next ()))else some (Out.next ()))
def T9 (l:List B3) (run:Int):Option (Bool):=
 (Al (Vw run) 0 l ()).bind fun o0=>o0.on fun s0=>some false
theorem kR (l:List B3) (run:Int) {r:Bool} (h:T9 l run=some r):Ad Tryz.prog 103 [.sl 8 (l.map A7),.int .i64 run] (·= .bool r):=by
 refine Ad.nle (Ad.intro Tryz.func103 rfl rfl (by show _≤8;simp) ?_)
 unfold T9 at h
 refine nS (sq ?_)
 refine gw7 rfl ?_
 refine rg rfl fun K j=>?_
 refine Ah.inline Tryz.call199 Tryz.func199 rfl rfl (by show _≤9;simp) ?_
 refine nS (sq ?_)
 refine gw7 rfl ?_
 refine rg rfl fun K j=>?_
 refine Ah.inline Tryz.call261 Tryz.func261 rfl rfl (by show _≤19;simp) ?_
 refine nS (sq ?_)
 refine B5 rfl ?_
 refine rg rfl fun K j=>?_
 intro hm
 refine j _ _ (qn (bk ?_));clear j K
 obtain⟨o0,aa,ae⟩:=Ae h
 clear h
 refine AWP.Bh aa () (fun zz=>[(0,.sl 8 (l.map A7)),(1,.func 200 [.ptr 0 0]),(7,.int .i64 ((l.length:Nat):Int)),(8,.int .i64 ((zz.1:Nat):Int))]) (fun zz=>[.box [.int .i64 run]]) ?_
 rintro k0 ⟨⟩ ⟨⟩ bb aa
 dsimp only
 refine Cy rfl ?_
 refine cD rfl ?_ ?_<;>intro hc
 ·obtain rfl:=fnD aa hc
  have h:=Ao ae;try dsimp only at h
  have af:=leD bb hc
  subst af
  refine Cr rfl ?_
  refine nSc Tryz.results261 ?_
  refine j _ _ (qn (rt ?_));clear j K
  refine nSc Tryz.results199 ?_
  refine j _ _ (Cu ?_)
  cases h;exact en Tryz.results103
 obtain⟨ab,b0,ag,bh,ao,h,aa⟩:=fcD aa hc
 have ay:=wk (k:=k0) (by omega)
 unfold Vw at h;try dsimp only at h
 refine gw9 (Cy rfl ?_)
 refine rg rfl fun K j=>?_
 refine A1.of (f:=A7) (l:=l) ao ?_
 refine nS ?_
 refine Ah.inline Tryz.call200 Tryz.func200 rfl rfl (by show _≤13;simp) ?_
 refine nS (sq ?_)
 refine gw7 rfl ?_
 refine rg rfl fun K j=>?_
 refine gT h ?_ ?_<;>intro hc h
 ·refine j _ _ (qn (rt ?_));clear j K
  refine nSc Tryz.results200 ?_
  refine j _ _ (qn ?_);clear j K
  refine cA h rfl ?_ ?_<;>intro hc h
  ·refine gw1 rfl (br (qr (qr ?_)))
   replace h:=x0 h aa ae
   refine br (qr (nSc Tryz.results261 ?_))
   refine j _ _ (qn (rt ?_));clear j K
   refine nSc Tryz.results199 ?_
   refine j _ _ (Cu ?_)
   cases h;exact en Tryz.results103
  refine gw5 rfl ?_
  refine lE ag aa h () ?_ ?_<;>exact cuw ay
 refine j _ _ (qn (rt ?_));clear j K
 refine nSc Tryz.results200 ?_
 refine j _ _ (qn ?_);clear j K
 refine cf rfl (gw5 rfl ?_)
 refine lE ag aa h () ?_ ?_<;>exact cuw ay
def Oh (t:Int) (k2:Nat) (aw:Am) (sv:(List Int)):Option (Out ((List Int)) ((List Int))):=
 (bif (decide (aw.From≤t))then (bif (decide (t<aw.To))then chk (sv.length+aw.Runs.length) (some (Out.next (sv++aw.Runs)))else some (Out.next sv))else some (Out.next sv))
def Ra (l:List Am) (t:Int):Option ((List Int)):=
 (Al (Oh t) 0 l []).bind fun o2=>o2.on fun s2=>chk s2.length (chk s2.length (some (Cz (Dn s2))))
theorem fK (l:List Am) (t:Int) {r:(List Int)} (h:Ra l t=some r):Ad Tryz.prog 104 [.sl 4 (l.map Aj),.int .i64 t] (·= .sl 1 (r.map An)):=by
 refine Ad.nle (Ad.Ae6 Tryz.func104 rfl rfl (by show _≤19;simp) ?_)
 unfold Ra at h
 refine nS ?_
 refine oO.pre ?_
 refine gw3 rfl ?_
 refine oO.pre ?_
 refine gw3 rfl ?_
 refine oO.seqq ?_
 refine vM.seq ?_
 refine rg rfl fun K j=>?_
 refine Ah.inline Tryz.call201 Tryz.func201 rfl rfl (by show _≤6;simp) ?_
 refine nS (sq ?_)
 refine gw7 rfl ?_
 refine ar rfl (Cu ?_)
 refine nSc Tryz.results201 ?_
 refine j _ _ (qn ?_)
 refine vM.range [(4,.nils),(5,.ptr 0 0),(9,.func 262 [.ptr 1 0,.ptr 2 0])] cu cu rfl fun D A0 B0 gq hB0=>?_
 refine nS ?_
 refine Ah.inline Tryz.call262 Tryz.func262 rfl rfl (by show _≤29;simp) ?_
 refine nS (sq ?_)
 refine rg rfl fun K j=>?_
 intro hm
 refine j _ _ (qn (bk ?_))
 refine AWP.sub (Sub.Afa 0 0 1 rfl rfl (by decide)) ?_
 refine nS ?_
 obtain⟨o2,aj,dn⟩:=Ae h
 clear h
 refine AWP.Bh aj (0:Nat) (fun zz=>[(0,.yld 3),(2,.ptr 2 0),(6,.sl 4 (l.map Aj)),(7,.int .i64 ((l.length:Nat):Int)),(8,.int .i64 ((zz.1:Nat):Int))]) (fun zz=>[.box [.own 4 zz.2.2 0 zz.2.1.length],.box [.sl 4 (l.map Aj)],.box [.int .i64 t],.lp D 19 [(4,.nils),(5,.ptr 0 0),(9,.func 262 [.ptr 1 0,.ptr 2 0])] #[10] A0 B0 .ready none,.row zz.2.2 1 (zz.2.1.map An)]) ?_
 rintro k2 o4_1 bg df aj
 dsimp only
 refine Cy rfl ?_
 refine cD rfl ?_ ?_<;>intro hc
 ·obtain rfl:=fnD aj hc
  have h:=Ao dn;try dsimp only at h
  have af:=leD df hc
  subst af
  refine xt (qe (qe (bs (nSc Tryz.results262 ?_))))
  refine qrange.all rfl ?_
  refine nS (sq ?_)
  refine rg rfl fun K j=>?_
  obtain⟨hk,h⟩:=Bc h
  refine Ah.Dn Tryz.call68 Tryz.sorts68 rfl (by first | rfl | exact(Cq _).symm | (simp only[Aou,List.length_cons,List.length_nil,List.length_set,Aov]<;>omega)) hk ?_
  refine nS ?_
  refine j _ _ (qn (rG rfl fun K j=>?_))
  obtain⟨hk,h⟩:=Bc h
  refine Ah.Cz Tryz.call69 Tryz.compacts69 rfl (by first | rfl | exact(Cq _).symm | (simp only[Aou,List.length_cons,List.length_nil,List.length_set,Aov]<;>omega)) hk ?_
  refine nS ?_
  refine j (rt ?_)
  refine qmD.mk (r:=3) rfl ?_
  cases h;exact en Tryz.results104
 obtain⟨aw,b2,az,fo,ep,h,aj⟩:=fcD aj hc
 have cj:=wk (k:=k2) (by omega)
 unfold Oh at h;try dsimp only at h
 refine gw9 (rG rfl fun K j=>?_)
 refine A1.of (f:=Aj) (l:=l) ep ?_
 refine nS ?_
 refine j (rG rfl fun K j=>?_)
 refine gT h ?_ ?_<;>intro hc h
 ·refine gT h ?_ ?_<;>intro hc h
  ·refine Ah.yield rfl rfl rfl gq hB0 rfl fun md=>?_
   (try simp +decide -implicitDefEqProofs only[go_sem,qT])
   refine ar rfl ?_
   refine qyA.mk rfl ?_
   refine nS (bk ?_)
   refine rg rfl fun K j=>?_
   obtain⟨hk,h⟩:=Bc h
   (repeat refine rp ?_);try simp +decide -implicitDefEqProofs only[go_sem]
   refine j _ _ (bn ?_);clear j K
   refine qyB.next rfl ?_
   refine nS ?_
   refine j (cf rfl (gw5 rfl ?_))
   refine lE az aj h (bg+1) ?_ ?_<;>exact cuw cj
  refine j (cf rfl (gw5 rfl ?_))
  refine lE az aj h bg ?_ ?_<;>exact cuw cj
 refine j (cf rfl (gw5 rfl ?_))
 refine lE az aj h bg ?_ ?_<;>exact cuw cj
def E0 (t5_1:Bool):Option (Bool):=
 (bif t5_1 then some true else some false)
def I4 (m:A5):Option (Bool):=
 (bif (decide (m.State=1))then E0 (decide (m.State=1))else (bif (decide (m.State=2))then E0 (decide (m.State=2))else (bif (decide (m.State=3))then E0 (decide (m.State=3))else E0 (decide (m.State=4)))))
theorem U9 (m:A5) {r:Bool} (h:I4 m=some r):Ad Tryz.prog 249 [.agg (Aq m)] (·= .bool r):=by
 refine Ad.nle (Ad.intro Tryz.func249 rfl rfl (by show _≤10;simp) ?_)
 unfold I4 at h
 refine nS (sq ?_)
 refine B5 rfl ?_
 refine gw3 rfl (bk ?_)
 refine AWP.Ek (ι:=(Bool)×(Unit)) (fun zz=>[(5,.bool zz.1)]) (fun zz=>[]) (fun zz=>E0 zz.1=some r) (fun zz=>⟨rfl,rfl,rfl⟩) ?_ ?_
 ·refine B8 rfl ?_
  refine cA h rfl ?_ ?_<;>intro hc h
  ·refine Co ?_
   exact⟨((decide (m.State=1)),()),h,cu,cu⟩
  refine B8 rfl ?_
  refine cA h rfl ?_ ?_<;>intro hc h
  ·refine Co ?_
   exact⟨((decide (m.State=2)),()),h,cu,cu⟩
  refine B8 rfl ?_
  refine cA h rfl ?_ ?_<;>intro hc h
  ·refine Co ?_
   exact⟨((decide (m.State=3)),()),h,cu,cu⟩
  refine gw3 rfl ?_
  exact⟨((decide (m.State=4)),()),h,cu,cu⟩
 rintro⟨t5_1,⟨⟩⟩ h
 try dsimp only at h ⊢
 unfold E0 at h;try dsimp only at h
 refine cA h rfl ?_ ?_<;>intro hc h
 ·refine gw1 rfl (br (qr ?_))
  cases h;exact en Tryz.results249
 refine sk (bn (qn (gw1 rfl ?_)))
 cases h;exact en Tryz.results249
def Si (k2:Nat) (aw:A5) (sv:(List Int)):Option (Out ((List Int)) ((List Int))):=
 (I4 aw).bind fun y5=>(bif y5 then chk (sv.length+1) (some (Out.next (sv++[aw.Slide])))else some (Out.next sv))
def L9 (l:List A5):Option ((List Int)):=
 (Al Si 0 l []).bind fun o2=>o2.on fun s2=>chk s2.length (some (Dn s2))
theorem c8 (l:List A5) {r:(List Int)} (h:L9 l=some r):A8 Tryz.prog 202 [.sl 7 (l.map Aq)] (·= .sl 1 (r.map An)):=by
 refine A8.nle (A8.intro Tryz.func202 rfl rfl (by show _≤23;simp) ?_)
 unfold L9 at h
 refine nS (sq ?_)
 refine gw7 rfl ?_
 refine B5 rfl ?_
 refine rg rfl fun K j=>?_
 intro hm
 refine j _ _ (qn (bk ?_))
 refine AWP.ghost 3 1 rfl (by decide) ?_
 obtain⟨o2,aj,dn⟩:=Ae h
 clear h
 refine AWP.Bh aj (0:Nat) (fun zz=>[(3,.own 0 zz.2.2 0 zz.2.1.length),(6,.sl 7 (l.map Aq)),(7,.int .i64 ((l.length:Nat):Int)),(8,.int .i64 ((zz.1:Nat):Int))]) (fun zz=>[.row zz.2.2 1 (zz.2.1.map An)]) ?_
 rintro k2 bx bg df aj
 dsimp only
 refine Cy rfl ?_
 refine cD rfl ?_ ?_<;>intro hc
 ·obtain rfl:=fnD aj hc
  have h:=Ao dn;try dsimp only at h
  have af:=leD df hc
  subst af
  refine gw4 (rG rfl fun K j=>?_)
  obtain⟨hk,h⟩:=Bc h
  refine Ah.Dn Tryz.call68 Tryz.sorts68 rfl (by first | rfl | exact(Cq _).symm | (simp only[Aou,List.length_cons,List.length_nil,List.length_set,Aov]<;>omega)) hk ?_
  refine nS ?_
  refine j (gw1 rfl ?_)
  cases h;exact en Tryz.results202
 obtain⟨aw,b2,az,fo,ep,h,aj⟩:=fcD aj hc
 have cj:=wk (k:=k2) (by omega)
 unfold Si at h;try dsimp only at h
 refine gw9 (rG rfl fun K j=>?_)
 refine A1.of (f:=Aq) (l:=l) ep ?_
 refine nS ?_
 refine j (rG rfl fun K j=>?_)
 obtain⟨y5,cw,h⟩:=Ae h
 refine Ah.pure Tryz.call249 (U9 aw cw) rfl fun _ hr=>?_
 subst hr
 refine nS ?_
 refine j (cA h rfl ?_ ?_)<;>intro hc h
 ·refine rg rfl fun K j=>?_
  obtain⟨hk,h⟩:=Bc h
  (repeat refine rp ?_);try simp +decide -implicitDefEqProofs only[go_sem]
  refine j _ _ (Eo rfl ?_)
  refine lE az aj h (bg+1) ?_ ?_<;>exact cuw cj
 refine gw5 rfl ?_
 refine lE az aj h bg ?_ ?_<;>exact cuw cj
theorem eZ (l:List A5) {r:(List Int)} (h:L9 l=some r):Ad Tryz.prog 202 [.sl 7 (l.map Aq)] (·= .sl 1 (r.map An)):=(c8 l h).pure
def Lb (zone:Int) (y1:(List Int)) (k1:Nat) (ak:Aw) (sv:Unit):Option (Out (Unit) (Bool)):=
 (Bo y1 ak.ID).bind fun y4=>(bif y4 then(Bo ak.Zones zone).bind fun y5=>(bif y5 then some (Out.ret (decide (0≤((k1:Nat):Int))))else some (Out.next ()))else some (Out.next ()))
def G3 (f_:Af) (zone:Int):Option (Bool):=
 (L9 f_.Missions).bind fun y1=>(Al (Lb zone y1) 0 f_.Slides ()).bind fun o1=>o1.on fun s1=>some false
theorem Xd (f_:Af) (zone:Int) {r:Bool} (h:G3 f_ zone=some r):Ad Tryz.prog 105 [.agg (Ai f_),.int .i64 zone] (·= .bool r):=by
 refine Ad.nle (Ad.intro Tryz.func105 rfl rfl (by show _≤13;simp) ?_)
 unfold G3 at h
 refine nS (sq ?_)
 refine gw7 rfl ?_
 refine rg rfl fun K j=>?_
 obtain⟨y1,bp,h⟩:=Ae h
 refine Ah.pure Tryz.call202 (eZ f_.Missions bp) rfl fun _ hr=>?_
 subst hr
 refine nS ?_
 refine j _ _ (qn (rG rfl fun K j=>?_))
 refine Ah.inline Tryz.call203 Tryz.func203 rfl rfl (by show _≤9;simp) ?_
 refine nS (sq ?_)
 refine gw7 rfl ?_
 refine rg rfl fun K j=>?_
 refine Ah.inline Tryz.call245 Tryz.func245 rfl rfl (by show _≤19;simp) ?_
 refine nS (sq ?_)
 refine B5 rfl ?_
 refine rg rfl fun K j=>?_
 intro hm
 refine j _ _ (qn (bk ?_));clear j K
 obtain⟨o1,aq,db⟩:=Ae h
 clear h
 refine AWP.Bh aq () (fun zz=>[(0,.sl 6 (f_.Slides.map Az)),(1,.func 204 [.ptr 2 0,.ptr 1 0]),(7,.int .i64 ((f_.Slides.length:Nat):Int)),(8,.int .i64 ((zz.1:Nat):Int))]) (fun zz=>[.box (Ai f_),.box [.int .i64 zone],.box [.sl 1 (y1.map An)]]) ?_
 rintro k1 ⟨⟩ ⟨⟩ ga aq
 dsimp only
 refine Cy rfl ?_
 refine cD rfl ?_ ?_<;>intro hc
 ·obtain rfl:=fnD aq hc
  have h:=Ao db;try dsimp only at h
  have af:=leD ga hc
  subst af
  refine Cr rfl ?_
  refine nSc Tryz.results245 ?_
  refine j _ _ (qn (rt ?_));clear j K
  refine nSc Tryz.results203 ?_
  refine j (rt ?_)
  cases h;exact en Tryz.results105
 obtain⟨ak,b1,bl,fx,fk,h,aq⟩:=fcD aq hc
 have cz:=wk (k:=k1) (by omega)
 unfold Lb at h;try dsimp only at h
 refine gw9 (Cy rfl ?_)
 refine rg rfl fun K j=>?_
 refine A1.of (f:=Az) (l:=f_.Slides) fk ?_
 refine nS ?_
 refine Ah.inline Tryz.call204 Tryz.func204 rfl rfl (by show _≤15;simp) ?_
 refine nS (sq ?_)
 refine gw7 rfl ?_
 refine rg rfl fun K j=>?_
 obtain⟨y4,ch,h⟩:=Ae h
 refine Ah.pure Tryz.call54 (Bt y1 ak.ID ch) rfl fun _ hr=>?_
 subst hr
 refine nS ?_
 refine gT h ?_ ?_<;>intro hc h
 ·obtain⟨y5,cw,h⟩:=Ae h
  refine Ah.pure Tryz.call54 (Bt ak.Zones zone cw) rfl fun _ hr=>?_
  subst hr
  refine nS ?_
  refine j _ _ (qn (rt ?_));clear j K
  refine nSc Tryz.results204 ?_
  refine j _ _ (qn ?_);clear j K
  refine cA h rfl ?_ ?_<;>intro hc h
  ·refine gw1 rfl (br (qr (qr ?_)))
   replace h:=x0 h aq db
   refine br (qr (nSc Tryz.results245 ?_))
   refine j _ _ (qn (rt ?_));clear j K
   refine nSc Tryz.results203 ?_
   refine j (rt ?_)
   cases h;exact en Tryz.results105
  refine gw5 rfl ?_
  refine lE bl aq h () ?_ ?_<;>exact cuw cz
 refine j _ _ (qn (rt ?_));clear j K
 refine nSc Tryz.results204 ?_
 refine j _ _ (qn ?_);clear j K
 refine cf rfl (gw5 rfl ?_)
 refine lE bl aq h () ?_ ?_<;>exact cuw cz
def R6 (zone:Int) (k2:Nat) (aw:Cn) (sv:(List Int)):Option (Out ((List Int)) ((List Int))):=
 (bif (decide (aw.Zone=zone))then chk (sv.length+1) (some (Out.next (sv++[aw.ID])))else some (Out.next sv))
def Lj (m:Av) (zone:Int):Option ((List Int)):=
 (Al (R6 zone) 0 m.Runs []).bind fun o2=>o2.on fun s2=>some s2
theorem bV (m:Av) (zone:Int) {r:(List Int)} (h:Lj m zone=some r):A8 Tryz.prog 95 [.agg (Be m),.int .i64 zone] (·= .sl 1 (r.map An)):=by
 refine A8.nle (A8.intro Tryz.func95 rfl rfl (by show _≤26;simp) ?_)
 unfold Lj at h
 refine nS (sq ?_)
 refine gw7 rfl ?_
 refine B5 rfl ?_
 refine rg rfl fun K j=>?_
 intro hm
 refine j _ _ (qn (bk ?_))
 refine AWP.ghost 5 1 rfl (by decide) ?_
 obtain⟨o2,aj,dn⟩:=Ae h
 clear h
 refine AWP.Bh aj (0:Nat) (fun zz=>[(1,.int .i64 zone),(5,.own 1 zz.2.2 0 zz.2.1.length),(9,.sl 7 (m.Runs.map Bj)),(10,.int .i64 ((m.Runs.length:Nat):Int)),(11,.int .i64 ((zz.1:Nat):Int))]) (fun zz=>[.gone,.row zz.2.2 1 (zz.2.1.map An)]) ?_
 rintro k2 bx bg df aj
 dsimp only
 refine Cy rfl ?_
 refine cD rfl ?_ ?_<;>intro hc
 ·obtain rfl:=fnD aj hc
  have h:=Ao dn;try dsimp only at h
  have af:=leD df hc
  subst af
  refine Cr rfl ?_
  cases h;exact en Tryz.results95
 obtain⟨aw,b2,az,fo,ep,h,aj⟩:=fcD aj hc
 have cj:=wk (k:=k2) (by omega)
 unfold R6 at h;try dsimp only at h
 refine gw9 (rG rfl fun K j=>?_)
 refine A1.of (f:=Bj) (l:=m.Runs) ep ?_
 refine nS ?_
 refine j (B8 rfl ?_)
 refine cA h rfl ?_ ?_<;>intro hc h
 ·refine rg rfl fun K j=>?_
  obtain⟨hk,h⟩:=Bc h
  (repeat refine rp ?_);try simp +decide -implicitDefEqProofs only[go_sem]
  refine j _ _ (Eo rfl ?_)
  refine lE az aj h (bg+1) ?_ ?_<;>exact cuw cj
 refine gw5 rfl ?_
 refine lE az aj h bg ?_ ?_<;>exact cuw cj
theorem dK (m:Av) (zone:Int) {r:(List Int)} (h:Lj m zone=some r):Ad Tryz.prog 95 [.agg (Be m),.int .i64 zone] (·= .sl 1 (r.map An)):=(bV m zone h).pure
def Xw (id_:Int) (k0:Nat) (ab:Cx) (sv:Unit):Option (Out (Unit) (Cx×Bool)):=
 (bif (decide (ab.ID=id_))then some (Out.ret (ab,true))else some (Out.next ()))
def Ef (m:Av) (id_:Int):Option (Cx×Bool):=
 (Al (Xw id_) 0 m.Nodes ()).bind fun o0=>o0.on fun s0=>some ((Cx.mk 0 0),false)
theorem Dz (m:Av) (id_:Int) {r:Cx×Bool} (h:Ef m id_=some r):Ad Tryz.prog 96 [.agg (Be m),.int .i64 id_] (·= .tuple [.agg (Bq r.1),.bool r.2]):=by
 refine Ad.nle (Ad.intro Tryz.func96 rfl rfl (by show _≤22;simp) ?_)
 unfold Ef at h
 refine nS (sq ?_)
 refine B5 rfl ?_
 refine rg rfl fun K j=>?_
 intro hm
 refine j _ _ (qn (bk ?_))
 obtain⟨o0,aa,ae⟩:=Ae h
 clear h
 refine AWP.Bh aa () (fun zz=>[(1,.int .i64 id_),(4,.ptr 1 0),(9,.sl 2 (m.Nodes.map Bq)),(10,.int .i64 ((m.Nodes.length:Nat):Int)),(11,.int .i64 ((zz.1:Nat):Int))]) (fun zz=>[.gone,.box [.int .i64 0,.int .i64 0]]) ?_
 rintro k0 ⟨⟩ ⟨⟩ bb aa
 dsimp only
 refine Cy rfl ?_
 refine cD rfl ?_ ?_<;>intro hc
 ·obtain rfl:=fnD aa hc
  have h:=Ao ae;try dsimp only at h
  have af:=leD bb hc
  subst af
  refine Cr rfl ?_
  cases h;exact en Tryz.results96
 obtain⟨ab,b0,ag,bh,ao,h,aa⟩:=fcD aa hc
 have ay:=wk (k:=k0) (by omega)
 unfold Xw at h;try dsimp only at h
 refine gw9 (rG rfl fun K j=>?_)
 refine A1.of (f:=Bq) (l:=m.Nodes) ao ?_
 refine nS ?_
 refine j (B8 rfl ?_)
 refine cA h rfl ?_ ?_<;>intro hc h
 ·refine Cs rfl ?_
  cases x0 h aa ae;exact en Tryz.results96
 refine gw5 rfl ?_
 refine lE ag aa h () ?_ ?_<;>exact cuw ay
def Fw (m:Av) (k4:Nat) (cp:Int) (sv:Int×Int×Bool):Option (Out (Int×Int×Bool) (Int×Int×Bool)):=
 (E9 m cp).bind fun y7=>(Ef m y7.1.From).bind fun y8=>(Ef m y7.1.To).bind fun y9=>(bif (!sv.2.2)then some (Out.next ((if y9.1.Alt<y9.1.Alt then y9.1.Alt else y9.1.Alt),(if y8.1.Alt<y8.1.Alt then y8.1.Alt else y8.1.Alt),true))else some (Out.next ((if y9.1.Alt<sv.1 then y9.1.Alt else sv.1),(if sv.2.1<y8.1.Alt then y8.1.Alt else sv.2.1),sv.2.2)))
def Fs (m:Av) (zone:Int):Option (Int×Int×Bool):=
 (Lj m zone).bind fun y1=>(Al (Fw m) 0 y1 (0,0,false)).bind fun o4=>o4.on fun s4=>some (s4.1,(s4.2.1,s4.2.2))
theorem Vu (m:Av) (zone:Int) {r:Int×Int×Bool} (h:Fs m zone=some r):Ad Tryz.prog 44 [.agg (Be m),.int .i64 zone] (·= .tuple [.int .i64 r.1,.int .i64 r.2.1,.bool r.2.2]):=by
 refine Ad.nle (Ad.intro Tryz.func44 rfl rfl (by show _≤61;simp) ?_)
 unfold Fs at h
 refine nS (sq ?_)
 refine B5 rfl ?_
 refine rg rfl fun K j=>?_
 obtain⟨y1,bp,h⟩:=Ae h
 refine Ah.pure Tryz.call95 (dK m zone bp) rfl fun _ hr=>?_
 subst hr
 refine nS ?_
 intro hm
 refine j _ _ (qn (bk ?_))
 obtain⟨o4,ck,jl⟩:=Ae h
 clear h
 refine AWP.Bh ck () (fun zz=>[(2,.ptr 0 0),(4,.int .i64 zz.2.1.1),(5,.int .i64 zz.2.1.2.1),(6,.bool zz.2.1.2.2),(17,.sl 1 (y1.map An)),(18,.int .i64 ((y1.length:Nat):Int)),(19,.int .i64 ((zz.1:Nat):Int))]) (fun zz=>[.box (Be m)]) ?_
 rintro k4 ⟨low2,high3,ok4⟩ ⟨⟩ oy ck
 dsimp only
 refine Cy rfl ?_
 refine cD rfl ?_ ?_<;>intro hc
 ·obtain rfl:=fnD ck hc
  have h:=Ao jl;try dsimp only at h
  have af:=leD oy hc
  subst af
  refine Cr rfl ?_
  cases h;exact en Tryz.results44
 obtain⟨cp,b4,gj,re,qb,h,ck⟩:=fcD ck hc
 have kf:=wk (k:=k4) (by omega)
 unfold Fw at h;try dsimp only at h
 refine gw9 (rG rfl fun K j=>?_)
 refine A1.of (f:=An) (l:=y1) qb ?_
 refine nS ?_
 refine j (rG rfl fun K j=>?_)
 obtain⟨y7,eg,h⟩:=Ae h
 refine Ah.pure Tryz.call53 (Eh m cp eg) rfl fun _ hr=>?_
 subst hr
 refine nS ?_
 refine j (rG rfl fun K j=>?_)
 obtain⟨y8,ej,h⟩:=Ae h
 refine Ah.pure Tryz.call96 (Dz m y7.1.From ej) rfl fun _ hr=>?_
 subst hr
 refine nS ?_
 refine j (rG rfl fun K j=>?_)
 obtain⟨y9,fu,h⟩:=Ae h
 refine Ah.pure Tryz.call96 (Dz m y7.1.To fu) rfl fun _ hr=>?_
 subst hr
 refine nS ?_
 refine j (sq (B8 rfl ?_))
 refine cA h rfl ?_ ?_<;>intro hc h
 ·refine dR Tryz.mixed fun K j=>?_
  refine nS ?_
  refine j _ _ _ (by kernel_rfl) (qn (B8 rfl ?_))
  refine ar rfl (bn (qn ?_))
  refine gw3 rfl ?_
  refine lE gj ck h () ?_ ?_<;>exact cuw kf
 refine Co (B8 rfl ?_)
 refine ar rfl (bn (qn ?_))
 refine gw3 rfl ?_
 refine lE gj ck h () ?_ ?_<;>exact cuw kf
def L8 (span:Hb) (t:Int):Option (Bool):=
 (bif (decide (span.From≤t))then some (decide (t<span.To))else some false)
theorem U8 (span:Hb) (t:Int) {r:Bool} (h:L8 span t=some r):Ad Tryz.prog 197 [.agg (Uc span),.int .i64 t] (·= .bool r):=by
 refine Ad.nle (Ad.intro Tryz.func197 rfl rfl (by show _≤15;simp) ?_)
 unfold L8 at h
 refine nS (sq ?_)
 refine gw7 rfl ?_
 refine rg rfl fun K j=>?_
 refine gT h ?_ ?_<;>intro hc h
 ·refine j _ _ (Cu ?_)
  cases h;exact en Tryz.results197
 refine j _ _ (Cu ?_)
 cases h;exact en Tryz.results197
def Hr (t:Int) (k1:Nat) (ak:A2) (sv:Int):Option (Out (Int) (Int)):=
 (L8 ak.Span t).bind fun y4=>(bif y4 then(bif (decide (sv<ak.Version))then some (Out.next ak.Version)else some (Out.next sv))else some (Out.next sv))
def Ia (l:List A2) (t:Int):Option (Int):=
 (Al (Hr t) 0 l 0).bind fun o1=>o1.on fun s1=>some s1
theorem Ye (l:List A2) (t:Int) {r:Int} (h:Ia l t=some r):Ad Tryz.prog 195 [.sl 7 (l.map Ap),.int .i64 t] (·= .int .i64 r):=by
 refine Ad.nle (Ad.intro Tryz.func195 rfl rfl (by show _≤28;simp) ?_)
 unfold Ia at h
 refine nS (sq ?_)
 refine gw7 rfl ?_
 refine B5 rfl ?_
 refine rg rfl fun K j=>?_
 intro hm
 refine j _ _ (qn (bk ?_))
 obtain⟨o1,aq,db⟩:=Ae h
 clear h
 refine AWP.Bh aq () (fun zz=>[(1,.int .i64 t),(5,.int .i64 zz.2.1),(8,.sl 7 (l.map Ap)),(9,.int .i64 ((l.length:Nat):Int)),(10,.int .i64 ((zz.1:Nat):Int))]) (fun zz=>[]) ?_
 rintro k1 version1 ⟨⟩ ga aq
 dsimp only
 refine Cy rfl ?_
 refine cD rfl ?_ ?_<;>intro hc
 ·obtain rfl:=fnD aq hc
  have h:=Ao db;try dsimp only at h
  have af:=leD ga hc
  subst af
  refine Cr rfl ?_
  cases h;exact en Tryz.results195
 obtain⟨ak,b1,bl,fx,fk,h,aq⟩:=fcD aq hc
 have cz:=wk (k:=k1) (by omega)
 unfold Hr at h;try dsimp only at h
 refine gw9 (rG rfl fun K j=>?_)
 refine A1.of (f:=Ap) (l:=l) fk ?_
 refine nS ?_
 refine j (rG rfl fun K j=>?_)
 obtain⟨y4,ch,h⟩:=Ae h
 refine Ah.pure Tryz.call197 (U8 ak.Span t ch) rfl fun _ hr=>?_
 subst hr
 refine nS ?_
 refine gT h ?_ ?_<;>intro hc h
 ·refine j (cA h rfl ?_ ?_)<;>intro hc h
  ·refine ar rfl (bn (qn ?_))
   refine gw3 rfl ?_
   refine lE bl aq h () ?_ ?_<;>exact cuw cz
  refine gw5 rfl ?_
  refine lE bl aq h () ?_ ?_<;>exact cuw cz
 refine j (cf rfl (gw5 rfl ?_))
 refine lE bl aq h () ?_ ?_<;>exact cuw cz
def Px (zone:Int) (low:Int) (high:Int) (t:Int) (y1:Int) (k2:Nat) (aw:A2) (sv:Int):Option (Out (Int) (Int)):=
 (bif (decide (aw.Version=y1))then (L8 aw.Span t).bind fun y5=>(bif y5 then(Bo aw.Zones zone).bind fun y6=>(bif y6 then(bif (decide (aw.Low<high))then (bif (decide (low<aw.High))then (bif (decide (sv<aw.Level))then some (Out.next aw.Level)else some (Out.next sv))else some (Out.next sv))else some (Out.next sv))else some (Out.next sv))else some (Out.next sv))else some (Out.next sv))
def H9 (l:List A2) (zone:Int) (low:Int) (high:Int) (t:Int):Option (Int):=
 (Ia l t).bind fun y1=>(Al (Px zone low high t y1) 0 l 0).bind fun o2=>o2.on fun s2=>some s2
theorem bD (l:List A2) (zone:Int) (low:Int) (high:Int) (t:Int) {r:Int} (h:H9 l zone low high t=some r):Ad Tryz.prog 45 [.sl 7 (l.map Ap),.int .i64 zone,.int .i64 low,.int .i64 high,.int .i64 t] (·= .int .i64 r):=by
 refine Ad.nle (Ad.intro Tryz.func45 rfl rfl (by show _≤55;simp) ?_)
 unfold H9 at h
 refine nS (sq ?_)
 refine gw7 rfl ?_
 refine rg rfl fun K j=>?_
 refine Ah.inline Tryz.call97 Tryz.func97 rfl rfl (by show _≤10;simp) ?_
 refine nS (sq ?_)
 refine gw7 rfl ?_
 refine rg rfl fun K j=>?_
 obtain⟨y1,bp,h⟩:=Ae h
 refine Ah.pure Tryz.call195 (Ye l t bp) rfl fun _ hr=>?_
 subst hr
 refine nS ?_
 refine j _ _ (qn (sq ?_));clear j K
 refine ar rfl (Cu ?_)
 refine nSc Tryz.results97 ?_
 refine j _ _ (qn (sq (B5 rfl ?_)))
 refine rg rfl fun K j=>?_
 intro hm
 refine j _ _ (qn (bk ?_))
 obtain⟨o2,aj,dn⟩:=Ae h
 clear h
 refine AWP.Bh aj () (fun zz=>[(1,.int .i64 zone),(2,.int .i64 low),(3,.int .i64 high),(11,.func 196 [.ptr 1 0,.ptr 0 0]),(12,.int .i64 zz.2.1),(18,.sl 7 (l.map Ap)),(19,.int .i64 ((l.length:Nat):Int)),(20,.int .i64 ((zz.1:Nat):Int))]) (fun zz=>[.box [.int .i64 t],.box [.int .i64 y1]]) ?_
 rintro k2 level2 ⟨⟩ df aj
 dsimp only
 refine Cy rfl ?_
 refine cD rfl ?_ ?_<;>intro hc
 ·obtain rfl:=fnD aj hc
  have h:=Ao dn;try dsimp only at h
  have af:=leD df hc
  subst af
  refine Cr rfl ?_
  cases h;exact en Tryz.results45
 obtain⟨aw,b2,az,fo,ep,h,aj⟩:=fcD aj hc
 have cj:=wk (k:=k2) (by omega)
 unfold Px at h;try dsimp only at h
 refine gw9 (rG rfl fun K j=>?_)
 refine A1.of (f:=Ap) (l:=l) ep ?_
 refine nS ?_
 refine j (rG rfl fun K j=>?_)
 refine Ah.inline Tryz.call196 Tryz.func196 rfl rfl (by show _≤15;simp) ?_
 refine nS (sq ?_)
 refine gw7 rfl ?_
 refine rg rfl fun K j=>?_
 refine gT h ?_ ?_<;>intro hc h
 ·obtain⟨y5,cw,h⟩:=Ae h
  refine Ah.pure Tryz.call197 (U8 aw.Span t cw) rfl fun _ hr=>?_
  subst hr
  refine nS ?_
  refine j _ _ (qn (rt ?_));clear j K
  refine nSc Tryz.results196 ?_
  refine gT h ?_ ?_<;>intro hc h
  ·obtain⟨y6,ec,h⟩:=Ae h
   refine Ah.pure Tryz.call54 (Bt aw.Zones zone ec) rfl fun _ hr=>?_
   subst hr
   refine nS ?_
   refine gT h ?_ ?_<;>intro hc h
   ·refine gT h ?_ ?_<;>intro hc h
    ·refine gT h ?_ ?_<;>intro hc h
     ·refine j (cA h rfl ?_ ?_)<;>intro hc h
      ·refine ar rfl (bn (qn ?_))
       refine gw3 rfl ?_
       refine lE az aj h () ?_ ?_<;>exact cuw cj
      refine gw5 rfl ?_
      refine lE az aj h () ?_ ?_<;>exact cuw cj
     refine j (cf rfl (gw5 rfl ?_))
     refine lE az aj h () ?_ ?_<;>exact cuw cj
    refine j (cf rfl (gw5 rfl ?_))
    refine lE az aj h () ?_ ?_<;>exact cuw cj
   refine j (cf rfl (gw5 rfl ?_))
   refine lE az aj h () ?_ ?_<;>exact cuw cj
  refine j (cf rfl (gw5 rfl ?_))
  refine lE az aj h () ?_ ?_<;>exact cuw cj
 refine j _ _ (qn (rt ?_));clear j K
 refine nSc Tryz.results196 ?_
 refine j (cf rfl (gw5 rfl ?_))
 refine lE az aj h () ?_ ?_<;>exact cuw cj
def Ey (f_:Af) (k2:Nat) (_x:Unit) (sv:(List Int)):Option (Out ((List Int)) ((List Int))):=
 (Fs f_.Map (((k2:Nat):Int)+1)).bind fun y4=>(bif y4.2.2 then(H9 f_.Bulletin (((k2:Nat):Int)+1) y4.1 y4.2.1 f_.Time).bind fun y5=>chk (sv.length+1) (some (Out.next (sv++[y5])))else chk (sv.length+1) (some (Out.next (sv++[(0:Int)]))))
def E4 (f_:Af):Option ((List Int)):=
 Aec 32 ((J8 (Ey f_) 32 []).bind fun o2=>o2.on fun s2=>some s2)
theorem Xe (f_:Af) {r:(List Int)} (h:E4 f_=some r):A8 Tryz.prog 16 [.agg (Ai f_)] (·= .sl 1 (r.map An)):=by
 refine A8.nle (A8.intro Tryz.func16 rfl rfl (by show _≤36;simp) ?_)
 unfold E4 at h
 refine nS (sq ?_)
 refine gw7 rfl ?_
 refine rg rfl fun K j=>?_
 obtain⟨hk,df,h⟩:=Aeb h
 (repeat refine rp ?_);try simp +decide -implicitDefEqProofs only[go_sem]
 refine j _ _ (qn (sq (B8 rfl (bk ?_))))
 obtain⟨o2,aj,dn⟩:=Ae h
 clear h
 obtain⟨vh,aj⟩:=Ng aj
 refine AWP.Ma (ι:=Nat×((List Int))×(Nat)) (fun zz=>[(1,.ptr 0 0),(3,.own 1 zz.2.2 0 zz.2.1.length),(4,.int .i64 (((zz.1:Nat):Int)+(1:Int)))]) (fun zz=>[.box (Ai f_),.row zz.2.2 1 (zz.2.1.map An)]) (fun zz=>zz.1≤32∧Al (Ey f_) zz.1 ((List.replicate 32 ()).drop zz.1) zz.2.1=some o2) (fun zz=>32 - zz.1) (0,[],0) ⟨Nat.zero_le _,aj⟩ cu cu (fun x=>⟨rfl,rfl,rfl⟩) ?_
 clear aj
 rintro⟨k2,bx,bg⟩ ⟨df,aj⟩
 dsimp only at df aj ⊢
 refine sq (B8 rfl ?_)
 refine cD rfl ?_ ?_<;>intro hc
 ·obtain rfl:=J5 aj (fun hl=>by rw[Aov]at hl;have:=Aom hc;omega)
  have h:=Ao dn;try dsimp only at h
  have af:32=k2:=by have:=Aom hc;omega
  subst af
  refine Cr rfl ?_
  cases h;exact en Tryz.results16
 have az:k2<32:=by have:=Aon hc;omega
 obtain⟨_,b2,_,h,aj⟩:=G6 aj (by rw[Aov];exact az)
 have cj:IntKind.i64.wrap ((((k2:Nat):Int)+1)+1)=(((k2:Nat):Int)+1+1):=by rw[wrap_i64]<;>omega
 unfold Ey at h;try dsimp only at h
 refine gw9 (sq (B5 rfl ?_))
 refine rg rfl fun K j=>?_
 obtain⟨y4,ch,h⟩:=Ae h
 refine Ah.pure Tryz.call44 (Vu f_.Map (((k2:Nat):Int)+1) ch) rfl fun _ hr=>?_
 subst hr
 refine nS ?_
 refine j _ _ (qn (B8 rfl ?_))
 refine cA h rfl ?_ ?_<;>intro hc h
 ·refine rg rfl fun K j=>?_
  obtain⟨y5,cw,h⟩:=Ae h
  refine Ah.pure Tryz.call45 (bD f_.Bulletin (((k2:Nat):Int)+1) y4.1 y4.2.1 f_.Time cw) rfl fun _ hr=>?_
  subst hr
  refine nS ?_
  refine j _ _ (qn (rg rfl fun K j=>?_))
  obtain⟨hk,h⟩:=Bc h
  (repeat refine rp ?_);try simp +decide -implicitDefEqProofs only[go_sem]
  refine j _ _ (Eo rfl ?_)
  obtain rfl:=Aa h
  refine⟨(k2+1,(bx++[y5]),(bg+1)),⟨by dsimp only;omega,Cj aj⟩,by dsimp only;omega,?_,?_⟩
  ·exact cuw cj
  exact cuw cj
 refine Co (rg rfl fun K j=>?_)
 obtain⟨hk,h⟩:=Bc h
 (repeat refine rp ?_);try simp +decide -implicitDefEqProofs only[go_sem]
 refine j _ _ (Eo rfl ?_)
 obtain rfl:=Aa h
 refine⟨(k2+1,(bx++[(0:Int)]),(bg+1)),⟨by dsimp only;omega,Cj aj⟩,by dsimp only;omega,?_,?_⟩
 ·exact cuw cj
 exact cuw cj
theorem Yb (f_:Af) {r:(List Int)} (h:E4 f_=some r):Ad Tryz.prog 16 [.agg (Ai f_)] (·= .sl 1 (r.map An)):=(Xe f_ h).pure
def I6 (levels:List Int) (k1:Nat) (ak:Int) (sv:Int):Option (Out (Int) (Int)):=
 (bif (decide (1≤ak))then (bif (decide (ak≤((levels.length:Nat):Int)))then (Da levels (IntKind.i64.wrap (ak - 1))).bind fun aw=>(bif (decide (((k1:Nat):Int)=0))then some (Out.next aw)else (bif (decide (sv<aw))then some (Out.next aw)else some (Out.next sv)))else (bif (decide (((k1:Nat):Int)=0))then some (Out.next 0)else (bif (decide (sv<0))then some (Out.next 0)else some (Out.next sv))))else (bif (decide (((k1:Nat):Int)=0))then some (Out.next 0)else (bif (decide (sv<0))then some (Out.next 0)else some (Out.next sv))))
def Nj (s_:Aw) (levels:List Int):Option (Int):=
 (Al (I6 levels) 0 s_.Zones 0).bind fun o1=>o1.on fun s1=>some s1
theorem Zt (s_:Aw) (levels:List Int) {r:Int} (h:Nj s_ levels=some r):Ad Tryz.prog 263 [.agg (Az s_),.sl 1 (levels.map An)] (·= .int .i64 r):=by
 refine Ad.nle (Ad.intro Tryz.func263 rfl rfl (by show _≤40;simp) ?_)
 unfold Nj at h
 refine nS (sq ?_)
 refine gw7 rfl ?_
 refine B5 rfl ?_
 refine rg rfl fun K j=>?_
 intro hm
 refine j _ _ (qn (bk ?_))
 obtain⟨o1,aq,db⟩:=Ae h
 clear h
 refine AWP.Bh aq () (fun zz=>[(1,.sl 1 (levels.map An)),(5,.int .i64 zz.2.1),(10,.sl 1 (s_.Zones.map An)),(11,.int .i64 ((s_.Zones.length:Nat):Int)),(12,.int .i64 ((zz.1:Nat):Int))]) (fun zz=>[]) ?_
 rintro k1 greatest1 ⟨⟩ ga aq
 dsimp only
 refine Cy rfl ?_
 refine cD rfl ?_ ?_<;>intro hc
 ·obtain rfl:=fnD aq hc
  have h:=Ao db;try dsimp only at h
  have af:=leD ga hc
  subst af
  refine Cr rfl ?_
  cases h;exact en Tryz.results263
 obtain⟨ak,b1,bl,fx,fk,h,aq⟩:=fcD aq hc
 have cz:=wk (k:=k1) (by omega)
 unfold I6 at h;try dsimp only at h
 refine gw9 (rG rfl fun K j=>?_)
 refine A1.of (f:=An) (l:=s_.Zones) fk ?_
 refine nS ?_
 refine j (sq (B5 rfl ?_))
 refine rg rfl fun K j=>?_
 refine gT h ?_ ?_<;>intro hc h
 ·intro hm
  refine j _ _ (qn (cA h rfl ?_ ?_))<;>intro hc h
  ·refine rg rfl fun K j=>?_
   obtain⟨aw,fg,h⟩:=Ae h
   refine A1.of (f:=An) (l:=levels) fg ?_
   refine nS ?_
   refine j _ _ (qn (rG rfl fun K j=>?_))
   refine gF h ?_ ?_<;>intro hc h
   ·refine j (cA h rfl ?_ ?_)<;>intro hc h
    ·refine ar rfl (bn (qn ?_))
     refine gw3 rfl ?_
     refine lE bl aq h () ?_ ?_<;>exact cuw cz
    refine gw5 rfl ?_
    refine lE bl aq h () ?_ ?_<;>exact cuw cz
   refine j (ct rfl (ar rfl (bn (qn ?_))))
   refine gw3 rfl ?_
   refine lE bl aq h () ?_ ?_<;>exact cuw cz
  refine Co (rG rfl fun K j=>?_)
  refine gF h ?_ ?_<;>intro hc h
  ·refine j (cA h rfl ?_ ?_)<;>intro hc h
   ·refine ar rfl (bn (qn ?_))
    refine gw3 rfl ?_
    refine lE bl aq h () ?_ ?_<;>exact cuw cz
   refine gw5 rfl ?_
   refine lE bl aq h () ?_ ?_<;>exact cuw cz
  refine j (ct rfl (ar rfl (bn (qn ?_))))
  refine gw3 rfl ?_
  refine lE bl aq h () ?_ ?_<;>exact cuw cz
 refine j _ _ (qn (cf rfl (Co (rG rfl fun K j=>?_))))
 refine gF h ?_ ?_<;>intro hc h
 ·refine j (cA h rfl ?_ ?_)<;>intro hc h
  ·refine ar rfl (bn (qn ?_))
   refine gw3 rfl ?_
   refine lE bl aq h () ?_ ?_<;>exact cuw cz
  refine gw5 rfl ?_
  refine lE bl aq h () ?_ ?_<;>exact cuw cz
 refine j (ct rfl (ar rfl (bn (qn ?_))))
 refine gw3 rfl ?_
 refine lE bl aq h () ?_ ?_<;>exact cuw cz
def Gi (s_:Aw) (levels:List Int):Option (Bool):=
 (bif (decide (s_.Limit≤s_.Load))then some true else(Nj s_ levels).bind fun y1=>(bif (decide (y1=3))then some (decide ((IntKind.i64.wrap (Int.tdiv s_.Limit 2))≤s_.Load))else (bif (decide (y1=4))then some (decide ((IntKind.i64.wrap (Int.tdiv s_.Limit 4))≤s_.Load))else some (decide (4<y1)))))
theorem Ww (s_:Aw) (levels:List Int) {r:Bool} (h:Gi s_ levels=some r):Ad Tryz.prog 205 [.agg (Az s_),.sl 1 (levels.map An)] (·= .bool r):=by
 refine Ad.nle (Ad.intro Tryz.func205 rfl rfl (by show _≤33;simp) ?_)
 unfold Gi at h
 refine nS (sq ?_)
 refine B5 rfl ?_
 refine gw3 rfl ?_
 refine cA h rfl ?_ ?_<;>intro hc h
 ·refine gw8 rfl ?_
  cases h;exact en Tryz.results205
 refine Co (rG rfl fun K j=>?_)
 obtain⟨y1,bp,h⟩:=Ae h
 refine Ah.pure Tryz.call263 (Zt s_ levels bp) rfl fun _ hr=>?_
 subst hr
 refine nS ?_
 refine j (B8 rfl (bk (sq ?_)))
 refine gw3 rfl ?_
 refine cA h rfl ?_ ?_<;>intro hc h
 ·refine gw1 rfl (br ?_)
  cases h;exact en Tryz.results205
 refine B8 rfl ?_
 refine cA h rfl ?_ ?_<;>intro hc h
 ·refine gw1 rfl (br ?_)
  cases h;exact en Tryz.results205
 refine gw1 rfl (br ?_)
 cases h;exact en Tryz.results205
def Nx (levels:List Int) (k2:Nat) (aw:Aw) (sv:(List Int)):Option (Out ((List Int)) ((List Int))):=
 (Gi aw levels).bind fun y5=>(bif y5 then chk (sv.length+aw.Zones.length) (some (Out.next (sv++aw.Zones)))else some (Out.next sv))
def Gu (l:List Aw) (levels:List Int):Option ((List Int)):=
 (Al (Nx levels) 0 l []).bind fun o2=>o2.on fun s2=>chk s2.length (chk s2.length (some (Cz (Dn s2))))
theorem Yf (l:List Aw) (levels:List Int) {r:(List Int)} (h:Gu l levels=some r):A8 Tryz.prog 106 [.sl 6 (l.map Az),.sl 1 (levels.map An)] (·= .sl 1 (r.map An)):=by
 refine A8.nle (A8.intro Tryz.func106 rfl rfl (by show _≤26;simp) ?_)
 unfold Gu at h
 refine nS (sq ?_)
 refine gw7 rfl ?_
 refine B5 rfl ?_
 refine rg rfl fun K j=>?_
 intro hm
 refine j _ _ (qn (bk ?_))
 refine AWP.ghost 5 1 rfl (by decide) ?_
 obtain⟨o2,aj,dn⟩:=Ae h
 clear h
 refine AWP.Bh aj (0:Nat) (fun zz=>[(1,.sl 1 (levels.map An)),(5,.own 0 zz.2.2 0 zz.2.1.length),(8,.sl 6 (l.map Az)),(9,.int .i64 ((l.length:Nat):Int)),(10,.int .i64 ((zz.1:Nat):Int))]) (fun zz=>[.row zz.2.2 1 (zz.2.1.map An)]) ?_
 rintro k2 bx bg df aj
 dsimp only
 refine Cy rfl ?_
 refine cD rfl ?_ ?_<;>intro hc
 ·obtain rfl:=fnD aj hc
  have h:=Ao dn;try dsimp only at h
  have af:=leD df hc
  subst af
  refine gw4 (rG rfl fun K j=>?_)
  obtain⟨hk,h⟩:=Bc h
  refine Ah.Dn Tryz.call68 Tryz.sorts68 rfl (by first | rfl | exact(Cq _).symm | (simp only[Aou,List.length_cons,List.length_nil,List.length_set,Aov]<;>omega)) hk ?_
  refine nS ?_
  refine j (rG rfl fun K j=>?_)
  obtain⟨hk,h⟩:=Bc h
  refine Ah.Cz Tryz.call69 Tryz.compacts69 rfl (by first | rfl | exact(Cq _).symm | (simp only[Aou,List.length_cons,List.length_nil,List.length_set,Aov]<;>omega)) hk ?_
  refine nS ?_
  refine j (rt ?_)
  cases h;exact en Tryz.results106
 obtain⟨aw,b2,az,fo,ep,h,aj⟩:=fcD aj hc
 have cj:=wk (k:=k2) (by omega)
 unfold Nx at h;try dsimp only at h
 refine gw9 (rG rfl fun K j=>?_)
 refine A1.of (f:=Az) (l:=l) ep ?_
 refine nS ?_
 refine j (rG rfl fun K j=>?_)
 obtain⟨y5,cw,h⟩:=Ae h
 refine Ah.pure Tryz.call205 (Ww aw levels cw) rfl fun _ hr=>?_
 subst hr
 refine nS ?_
 refine j (cA h rfl ?_ ?_)<;>intro hc h
 ·refine rg rfl fun K j=>?_
  obtain⟨hk,h⟩:=Bc h
  (repeat refine rp ?_);try simp +decide -implicitDefEqProofs only[go_sem]
  refine j _ _ (Eo rfl ?_)
  refine lE az aj h (bg+1) ?_ ?_<;>exact cuw cj
 refine gw5 rfl ?_
 refine lE az aj h bg ?_ ?_<;>exact cuw cj
theorem Zr (l:List Aw) (levels:List Int) {r:(List Int)} (h:Gu l levels=some r):Ad Tryz.prog 106 [.sl 6 (l.map Az),.sl 1 (levels.map An)] (·= .sl 1 (r.map An)):=(Yf l levels h).pure
def Y3 (run:Int) (k0:Nat) (ab:Cg) (sv:Unit):Option (Out (Unit) (Int)):=
 (bif (decide (ab.Run=run))then some (Out.ret ((k0:Nat):Int))else some (Out.next ()))
def K7 (p:Bk) (run:Int):Option (Int):=
 (Al (Y3 run) 0 p.Ci ()).bind fun o0=>o0.on fun s0=>some (-1)
theorem Wn (p:Bk) (run:Int) {r:Int} (h:K7 p run=some r):Ad Tryz.prog 162 [.agg (Cf p),.int .i64 run] (·= .int .i64 r):=by
 refine Ad.nle (Ad.intro Tryz.func162 rfl rfl (by show _≤9;simp) ?_)
 unfold K7 at h
 refine nS (sq ?_)
 refine gw7 rfl ?_
 refine rg rfl fun K j=>?_
 refine Ah.inline Tryz.call243 Tryz.func243 rfl rfl (by show _≤19;simp) ?_
 refine nS (sq ?_)
 refine B5 rfl ?_
 refine rg rfl fun K j=>?_
 intro hm
 refine j _ _ (qn (bk ?_));clear j K
 obtain⟨o0,aa,ae⟩:=Ae h
 clear h
 refine AWP.Bh aa () (fun zz=>[(0,.sl 4 (p.Ci.map A3)),(1,.func 244 [.ptr 1 0]),(7,.int .i64 ((p.Ci.length:Nat):Int)),(8,.int .i64 ((zz.1:Nat):Int))]) (fun zz=>[.box (Cf p),.box [.int .i64 run]]) ?_
 rintro k0 ⟨⟩ ⟨⟩ bb aa
 dsimp only
 refine Cy rfl ?_
 refine cD rfl ?_ ?_<;>intro hc
 ·obtain rfl:=fnD aa hc
  have h:=Ao ae;try dsimp only at h
  have af:=leD bb hc
  subst af
  refine Cr rfl ?_
  refine nSc Tryz.results243 ?_
  refine j _ _ (Cu ?_)
  cases h;exact en Tryz.results162
 obtain⟨ab,b0,ag,bh,ao,h,aa⟩:=fcD aa hc
 have ay:=wk (k:=k0) (by omega)
 unfold Y3 at h;try dsimp only at h
 refine gw9 (Cy rfl ?_)
 refine rg rfl fun K j=>?_
 refine A1.of (f:=A3) (l:=p.Ci) ao ?_
 refine nS ?_
 refine Ah.inline Tryz.call244 Tryz.func244 rfl rfl (by show _≤8;simp) ?_
 refine nS (sq ?_)
 refine gw7 rfl ?_
 refine ar rfl (Cu ?_)
 refine nSc Tryz.results244 ?_
 refine j _ _ (qn ?_);clear j K
 refine cA h rfl ?_ ?_<;>intro hc h
 ·refine gw1 rfl (br (qr (qr ?_)))
  replace h:=x0 h aa ae
  refine br (qr (nSc Tryz.results243 ?_))
  refine j _ _ (Cu ?_)
  cases h;exact en Tryz.results162
 refine gw5 rfl ?_
 refine lE ag aa h () ?_ ?_<;>exact cuw ay
def Nd (l:Ba) (t:Int) (bx:List Int) (aw:Int) (k4:Nat) (cp:Fm) (sv:Unit):Option (Out (Unit) (Out ((List Int)) ((List Int)))):=
 (bif (decide (cp.Item=aw))then (bif (decide (cp.At≤t))then (bif (decide (t<(IntKind.i64.wrap (cp.At+l.Every))))then ((bif (!(decide (0≤((k4:Nat):Int))))then chk (bx.length+1) (some (Out.next (bx++[aw])))else some (Out.next bx))).bind fun q6=>some (Out.ret q6)else some (Out.next ()))else some (Out.next ()))else some (Out.next ()))
def Nf (l:Ba) (t:Int) (k2:Nat) (aw:Int) (sv:(List Int)):Option (Out ((List Int)) ((List Int))):=
 (Al (Nd l t sv aw) 0 l.Signs ()).bind fun o4=>o4.on fun s4=>chk (sv.length+1) (some (Out.next (sv++[aw])))
def L4 (l:Ba) (t:Int):Option ((List Int)):=
 (Al (Nf l t) 0 l.Items []).bind fun o2=>o2.on fun s2=>some s2
theorem cV (l:Ba) (t:Int) {r:(List Int)} (h:L4 l t=some r):A8 Tryz.prog 264 [.agg (B4 l),.int .i64 t] (·= .sl 1 (r.map An)):=by
 refine A8.nle (A8.intro Tryz.func264 rfl rfl (by show _≤28;simp) ?_)
 unfold L4 at h
 refine nS (sq ?_)
 refine gw7 rfl ?_
 refine B5 rfl ?_
 refine rg rfl fun K j=>?_
 intro hm
 refine j _ _ (qn (bk ?_))
 refine AWP.ghost 5 1 rfl (by decide) ?_
 obtain⟨o2,aj,dn⟩:=Ae h
 clear h
 refine AWP.Bh aj (0:Nat) (fun zz=>[(2,.ptr 0 0),(3,.ptr 1 0),(5,.own 2 zz.2.2 0 zz.2.1.length),(10,.sl 1 (l.Items.map An)),(11,.int .i64 ((l.Items.length:Nat):Int)),(12,.int .i64 ((zz.1:Nat):Int))]) (fun zz=>[.box (B4 l),.box [.int .i64 t],.row zz.2.2 1 (zz.2.1.map An)]) ?_
 rintro k2 bx bg df aj
 dsimp only
 refine Cy rfl ?_
 refine cD rfl ?_ ?_<;>intro hc
 ·obtain rfl:=fnD aj hc
  have h:=Ao dn;try dsimp only at h
  have af:=leD df hc
  subst af
  refine Cr rfl ?_
  cases h;exact en Tryz.results264
 obtain⟨aw,b2,az,fo,ep,h,aj⟩:=fcD aj hc
 have cj:=wk (k:=k2) (by omega)
 unfold Nf at h;try dsimp only at h
 refine gw9 (rG rfl fun K j=>?_)
 refine A1.of (f:=An) (l:=l.Items) ep ?_
 refine nS ?_
 refine j (Cy rfl ?_)
 refine rg rfl fun K j=>?_
 refine Ah.inline Tryz.call280 Tryz.func280 rfl rfl (by show _≤9;simp) ?_
 refine nS (sq ?_)
 refine gw7 rfl ?_
 refine rg rfl fun K j=>?_
 refine Ah.inline Tryz.call286 Tryz.func286 rfl rfl (by show _≤19;simp) ?_
 refine nS (sq ?_)
 refine B5 rfl ?_
 refine rg rfl fun K j=>?_
 intro hm
 refine j _ _ (qn (bk ?_));clear j K
 obtain⟨o4,ck,jl⟩:=Ae h
 clear h
 refine AWP.Bh ck () (fun zz=>[(0,.sl 3 (l.Signs.map Cw)),(1,.func 279 [.ptr 3 0,.ptr 1 0,.ptr 0 0]),(7,.int .i64 ((l.Signs.length:Nat):Int)),(8,.int .i64 ((zz.1:Nat):Int))]) (fun zz=>[.box (B4 l),.box [.int .i64 t],.row bg 1 (bx.map An),.box [.int .i64 aw]]) ?_
 rintro k4 ⟨⟩ ⟨⟩ oy ck
 dsimp only
 refine Cy rfl ?_
 refine cD rfl ?_ ?_<;>intro hc
 ·obtain rfl:=fnD ck hc
  have h:=Ao jl;try dsimp only at h
  have af:=leD oy hc
  subst af
  refine Cr rfl ?_
  refine nSc Tryz.results286 ?_
  refine j _ _ (qn (rt ?_));clear j K
  refine nSc Tryz.results280 ?_
  refine j _ _ (qn (ct rfl (rg rfl fun K j=>?_)))
  obtain⟨hk,h⟩:=Bc h
  (repeat refine rp ?_);try simp +decide -implicitDefEqProofs only[go_sem]
  refine j _ _ (Eo rfl ?_)
  refine lE az aj h (bg+1) ?_ ?_<;>exact cuw cj
 obtain⟨cp,b4,gj,re,qb,h,ck⟩:=fcD ck hc
 have kf:=wk (k:=k4) (by omega)
 unfold Nd at h;try dsimp only at h
 refine gw9 (Cy rfl ?_)
 refine rg rfl fun K j=>?_
 refine A1.of (f:=Cw) (l:=l.Signs) qb ?_
 refine nS ?_
 refine Ah.inline Tryz.call279 Tryz.func279 rfl rfl (by show _≤25;simp) ?_
 refine nS (sq ?_)
 refine gw7 rfl ?_
 refine rg rfl fun K j=>?_
 refine gT h ?_ ?_<;>intro hc h
 ·refine gT h ?_ ?_<;>intro hc h
  ·refine j _ _ (qn (rt ?_));clear j K
   refine nSc Tryz.results279 ?_
   refine j _ _ (qn ?_);clear j K
   refine cA h rfl ?_ ?_<;>intro hc h
   ·refine gw1 rfl (br (qr (qr ?_)))
    obtain⟨q6,hq,h⟩:=Ae h
    obtain rfl:=Aa h
    obtain rfl:=G7 ck
    replace h:=hq.trans (Pg jl)
    refine br (qr (nSc Tryz.results286 ?_))
    refine j _ _ (qn (rt ?_));clear j K
    refine nSc Tryz.results280 ?_
    refine j _ _ (qn (cA h rfl ?_ ?_))<;>intro hc h
    ·refine rg rfl fun K j=>?_
     obtain⟨hk,h⟩:=Bc h
     (repeat refine rp ?_);try simp +decide -implicitDefEqProofs only[go_sem]
     refine j _ _ (Eo rfl ?_)
     refine lE az aj h (bg+1) ?_ ?_<;>exact cuw cj
    refine gw5 rfl ?_
    refine lE az aj h bg ?_ ?_<;>exact cuw cj
   refine gw5 rfl ?_
   refine lE gj ck h () ?_ ?_<;>exact cuw kf
  refine j _ _ (qn (rt ?_));clear j K
  refine nSc Tryz.results279 ?_
  refine j _ _ (qn ?_);clear j K
  refine cf rfl (gw5 rfl ?_)
  refine lE gj ck h () ?_ ?_<;>exact cuw kf
 refine j _ _ (qn (rt ?_));clear j K
 refine nSc Tryz.results279 ?_
 refine j _ _ (qn ?_);clear j K
 refine cf rfl (gw5 rfl ?_)
 refine lE gj ck h () ?_ ?_<;>exact cuw kf
theorem eL (l:Ba) (t:Int) {r:(List Int)} (h:L4 l t=some r):Ad Tryz.prog 264 [.agg (B4 l),.int .i64 t] (·= .sl 1 (r.map An)):=(cV l t h).pure
def Pt (l:Ba) (t:Int):Option (Bool):=
 (L4 l t).bind fun y1=>some (decide (((y1.length:Nat):Int)=0))
theorem eM (l:Ba) (t:Int) {r:Bool} (h:Pt l t=some r):Ad Tryz.prog 206 [.agg (B4 l),.int .i64 t] (·= .bool r):=by
 refine Ad.nle (Ad.intro Tryz.func206 rfl rfl (by show _≤10;simp) ?_)
 unfold Pt at h
 refine nS (sq ?_)
 refine gw7 rfl ?_
 refine rg rfl fun K j=>?_
 obtain⟨y1,bp,h⟩:=Ae h
 refine Ah.pure Tryz.call264 (eL l t bp) rfl fun _ hr=>?_
 subst hr
 refine nS ?_
 intro hm
 refine j _ _ (Cu ?_)
 cases h;exact en Tryz.results206
def Sd (run:Int) (k3:Nat) (cm:C5) (sv:Unit):Option (Out (Unit) (Bool)):=
 (bif (decide (cm.Run=run))then some (Out.ret (!(decide (0≤((k3:Nat):Int)))))else some (Out.next ()))
def Lw (p:Bk) (run:Int) (t:Int):Option (Bool):=
 (K7 p run).bind fun y1=>(bif (decide (y1<0))then some false else(Da p.Ci y1).bind fun ab=>(Pt ab.List_ t).bind fun y3=>(bif (!y3)then some false else(Al (Sd run) 0 p.Hazards ()).bind fun o3=>o3.on fun s3=>some true))
theorem eE (p:Bk) (run:Int) (t:Int) {r:Bool} (h:Lw p run t=some r):Ad Tryz.prog 107 [.agg (Cf p),.int .i64 run,.int .i64 t] (·= .bool r):=by
 refine Ad.nle (Ad.intro Tryz.func107 rfl rfl (by show _≤29;simp) ?_)
 unfold Lw at h
 refine nS (sq ?_)
 refine gw7 rfl ?_
 refine rg rfl fun K j=>?_
 obtain⟨y1,bp,h⟩:=Ae h
 refine Ah.pure Tryz.call162 (Wn p run bp) rfl fun _ hr=>?_
 subst hr
 refine nS ?_
 refine j _ _ (qn (sq (rG rfl fun K j=>?_)))
 refine gF' h ?_ ?_<;>intro hc h
 ·refine j (ct rfl (gw8 rfl ?_))
  cases h;exact en Tryz.results107
 obtain⟨ab,wy,h⟩:=Ae h
 refine A1.of (f:=A3) (l:=p.Ci) wy ?_
 refine nS ?_
 obtain⟨y3,bu,h⟩:=Ae h
 refine Ah.pure Tryz.call206 (eM ab.List_ t bu) rfl fun _ hr=>?_
 subst hr
 refine nS ?_
 refine j (cA h rfl ?_ ?_)<;>intro hc h
 ·refine gw8 rfl ?_
  cases h;exact en Tryz.results107
 refine Co (rG rfl fun K j=>?_)
 refine Ah.inline Tryz.call207 Tryz.func207 rfl rfl (by show _≤9;simp) ?_
 refine nS (sq ?_)
 refine gw7 rfl ?_
 refine rg rfl fun K j=>?_
 refine Ah.inline Tryz.call241 Tryz.func241 rfl rfl (by show _≤19;simp) ?_
 refine nS (sq ?_)
 refine B5 rfl ?_
 refine rg rfl fun K j=>?_
 intro hm
 refine j _ _ (qn (bk ?_));clear j K
 obtain⟨o3,bo,ew⟩:=Ae h
 clear h
 refine AWP.Bh bo () (fun zz=>[(0,.sl 3 (p.Hazards.map Bg)),(1,.func 208 [.ptr 1 0]),(7,.int .i64 ((p.Hazards.length:Nat):Int)),(8,.int .i64 ((zz.1:Nat):Int))]) (fun zz=>[.box (Cf p),.box [.int .i64 run]]) ?_
 rintro k3 ⟨⟩ ⟨⟩ jz bo
 dsimp only
 refine Cy rfl ?_
 refine cD rfl ?_ ?_<;>intro hc
 ·obtain rfl:=fnD bo hc
  have h:=Ao ew;try dsimp only at h
  have af:=leD jz hc
  subst af
  refine Cr rfl ?_
  refine nSc Tryz.results241 ?_
  refine j _ _ (qn (rt ?_));clear j K
  refine nSc Tryz.results207 ?_
  refine j (rt ?_)
  cases h;exact en Tryz.results107
 obtain⟨cm,b3,da,lr,gn,h,bo⟩:=fcD bo hc
 have gi:=wk (k:=k3) (by omega)
 unfold Sd at h;try dsimp only at h
 refine gw9 (Cy rfl ?_)
 refine rg rfl fun K j=>?_
 refine A1.of (f:=Bg) (l:=p.Hazards) gn ?_
 refine nS ?_
 refine Ah.inline Tryz.call208 Tryz.func208 rfl rfl (by show _≤8;simp) ?_
 refine nS (sq ?_)
 refine gw7 rfl ?_
 refine ar rfl (Cu ?_)
 refine nSc Tryz.results208 ?_
 refine j _ _ (qn ?_);clear j K
 refine cA h rfl ?_ ?_<;>intro hc h
 ·refine gw1 rfl (br (qr (qr ?_)))
  replace h:=x0 h bo ew
  refine br (qr (nSc Tryz.results241 ?_))
  refine j _ _ (qn (rt ?_));clear j K
  refine nSc Tryz.results207 ?_
  refine j (rt ?_)
  cases h;exact en Tryz.results107
 refine gw5 rfl ?_
 refine lE da bo h () ?_ ?_<;>exact cuw gi
def Ja (n_:Int) (least:Int) (most:Int):Option (Bool):=
 (bif (decide (least≤n_))then some (decide (n_≤most))else some false)
theorem Kc (n_:Int) (least:Int) (most:Int) {r:Bool} (h:Ja n_ least most=some r):Ad Tryz.prog 176 [.int .i64 n_,.int .i64 least,.int .i64 most] (·= .bool r):=by
 refine Ad.nle (Ad.intro Tryz.func176 rfl rfl (by show _≤15;simp) ?_)
 unfold Ja at h
 refine nS (sq ?_)
 refine gw7 rfl ?_
 refine rg rfl fun K j=>?_
 refine gT h ?_ ?_<;>intro hc h
 ·refine j _ _ (Cu ?_)
  cases h;exact en Tryz.results176
 refine j _ _ (Cu ?_)
 cases h;exact en Tryz.results176
def Kd (p:Fo):Option (Bool):=
 (Ja p.Natural 0 20000).bind fun y1=>(bif y1 then(Ja p.Machine 0 20000).bind fun y2=>(bif y2 then(Ja p.Density 50 900).bind fun y3=>some y3 else some false)else some false)
theorem Sk (p:Fo) {r:Bool} (h:Kd p=some r):Ad Tryz.prog 84 [.agg (Nw p)] (·= .bool r):=by
 refine Ad.nle (Ad.intro Tryz.func84 rfl rfl (by show _≤16;simp) ?_)
 unfold Kd at h
 refine nS (sq ?_)
 refine gw7 rfl ?_
 refine rg rfl fun K j=>?_
 obtain⟨y1,bp,h⟩:=Ae h
 refine Ah.pure Tryz.call176 (Kc p.Natural 0 20000 bp) rfl fun _ hr=>?_
 subst hr
 refine nS ?_
 refine gT h ?_ ?_<;>intro hc h
 ·obtain⟨y2,cx,h⟩:=Ae h
  refine Ah.pure Tryz.call176 (Kc p.Machine 0 20000 cx) rfl fun _ hr=>?_
  subst hr
  refine nS ?_
  refine gT h ?_ ?_<;>intro hc h
  ·obtain⟨y3,bu,h⟩:=Ae h
   refine Ah.pure Tryz.call176 (Kc p.Density 50 900 bu) rfl fun _ hr=>?_
   subst hr
   refine nS ?_
   refine j _ _ (Cu ?_)
   cases h;exact en Tryz.results84
  refine j _ _ (Cu ?_)
  cases h;exact en Tryz.results84
 refine j _ _ (Cu ?_)
 cases h;exact en Tryz.results84
def On (p:Fo):Option (Int):=
 some (IntKind.i64.wrap (p.Natural+p.Machine))
theorem aV (p:Fo) {r:Int} (h:On p=some r):Ad Tryz.prog 265 [.agg (Nw p)] (·= .int .i64 r):=by
 refine Ad.nle (Ad.intro Tryz.func265 rfl rfl (by show _≤8;simp) ?_)
 unfold On at h
 refine nS (sq ?_)
 refine gw7 rfl ?_
 refine ar rfl (Cu ?_)
 cases h;exact en Tryz.results265
def Ke (p:Fo):Option (Int×Int):=
 (Kd p).bind fun y1=>(bif (!y1)then some (0,1)else (On p).bind fun y2=>nz p.Density (some ((IntKind.i64.wrap (Int.tdiv (IntKind.i64.wrap (y2*1000)) p.Density)),0)))
theorem aW (p:Fo) {r:Int×Int} (h:Ke p=some r):Ad Tryz.prog 211 [.agg (Nw p)] (·= .tuple [.int .i64 r.1,.int .i64 r.2]):=by
 refine Ad.nle (Ad.intro Tryz.func211 rfl rfl (by show _≤13;simp) ?_)
 unfold Ke at h
 refine nS (sq ?_)
 refine B5 rfl ?_
 refine rg rfl fun K j=>?_
 obtain⟨y1,bp,h⟩:=Ae h
 refine Ah.pure Tryz.call84 (Sk p bp) rfl fun _ hr=>?_
 subst hr
 refine nS ?_
 refine j _ _ (qn (cA h rfl ?_ ?_))<;>intro hc h
 ·refine gw8 rfl ?_
  cases h;exact en Tryz.results211
 refine gw6 (dR Tryz.mixed fun K j=>?_)
 refine nS ?_
 obtain⟨y2,cx,h⟩:=Ae h
 refine Br.pure Tryz.call265 (aV p cx) rfl ?_
 refine nS ?_
 obtain⟨hk,h⟩:=pG h
 refine⟨hk,?_⟩
 refine j _ _ _ (by kernel_rfl) (Cu ?_)
 cases h;exact en Tryz.results211
def La (f_:Af) (run:Int) (k0:Nat) (ab:Ct) (sv:Unit):Option (Out (Unit) (Bool)):=
 (bif (decide (ab.Run=run))then ((bif (decide (((k0:Nat):Int)<0))then some false else(Ke ab.Pack).bind fun y3=>(bif (decide (y3.2=0))then some (decide (f_.Depth≤y3.1))else some false))).bind fun q3=>some (Out.ret q3)else some (Out.next ()))
def Fh (f_:Af) (run:Int):Option (Bool):=
 (Al (La f_ run) 0 f_.Packs ()).bind fun o0=>o0.on fun s0=>some false
theorem Xc (f_:Af) (run:Int) {r:Bool} (h:Fh f_ run=some r):Ad Tryz.prog 108 [.agg (Ai f_),.int .i64 run] (·= .bool r):=by
 refine Ad.nle (Ad.intro Tryz.func108 rfl rfl (by show _≤32;simp) ?_)
 unfold Fh at h
 refine nS (sq ?_)
 refine gw7 rfl ?_
 refine rg rfl fun K j=>?_
 refine Ah.inline Tryz.call209 Tryz.func209 rfl rfl (by show _≤19;simp) ?_
 refine nS (sq ?_)
 refine B5 rfl ?_
 refine rg rfl fun K j=>?_
 intro hm
 refine j _ _ (qn (bk ?_));clear j K
 obtain⟨o0,aa,ae⟩:=Ae h
 clear h
 refine AWP.Bh aa () (fun zz=>[(0,.sl 5 (f_.Packs.map A6)),(1,.func 210 [.ptr 1 0]),(7,.int .i64 ((f_.Packs.length:Nat):Int)),(8,.int .i64 ((zz.1:Nat):Int))]) (fun zz=>[.box (Ai f_),.box [.int .i64 run]]) ?_
 rintro k0 ⟨⟩ ⟨⟩ bb aa
 dsimp only
 refine Cy rfl ?_
 refine cD rfl ?_ ?_<;>intro hc
 ·obtain rfl:=fnD aa hc
  have h:=Ao ae;try dsimp only at h
  have af:=leD bb hc
  subst af
  refine Cr rfl ?_
  refine nSc Tryz.results209 ?_
  refine j _ _ (qn (sq (B8 rfl ?_)))
  refine ct rfl (gw8 rfl ?_)
  cases h;exact en Tryz.results108
 obtain⟨ab,b0,ag,bh,ao,h,aa⟩:=fcD aa hc
 have ay:=wk (k:=k0) (by omega)
 unfold La at h;try dsimp only at h
 refine gw9 (Cy rfl ?_)
 refine rg rfl fun K j=>?_
 refine A1.of (f:=A6) (l:=f_.Packs) ao ?_
 refine nS ?_
 refine Ah.inline Tryz.call210 Tryz.func210 rfl rfl (by show _≤8;simp) ?_
 refine nS (sq ?_)
 refine gw7 rfl ?_
 refine ar rfl (Cu ?_)
 refine nSc Tryz.results210 ?_
 refine j _ _ (qn ?_);clear j K
 refine cA h rfl ?_ ?_<;>intro hc h
 ·refine gw1 rfl (br (qr (qr ?_)))
  obtain⟨q3,hq,h⟩:=Ae h
  obtain rfl:=Aa h
  obtain rfl:=G7 aa
  replace h:=hq.trans (Pg ae)
  refine br (qr (nSc Tryz.results209 ?_))
  refine j _ _ (qn (sq (B8 rfl ?_)))
  refine cA h rfl ?_ ?_<;>intro hc h
  ·refine gw8 rfl ?_
   cases h;exact en Tryz.results108
  refine Co (rG rfl fun K j=>?_)
  refine A1.of (f:=A6) (l:=f_.Packs) ao ?_
  refine nS ?_
  obtain⟨y3,bu,h⟩:=Ae h
  refine Ah.pure Tryz.call211 (aW ab.Pack bu) rfl fun _ hr=>?_
  subst hr
  refine nS ?_
  refine j (rG rfl fun K j=>?_)
  refine gT h ?_ ?_<;>intro hc h
  ·refine j (rt ?_)
   cases h;exact en Tryz.results108
  refine j (rt ?_)
  cases h;exact en Tryz.results108
 refine gw5 rfl ?_
 refine lE ag aa h () ?_ ?_<;>exact cuw ay
def Ex (f_:Af) (run:Int) (y1:Cn×Bool) (t24_3:Bool):Option (Int):=
 (bif t24_3 then some 15 else(E4 f_).bind fun y5=>(Gu f_.Slides y5).bind fun y6=>(Bo y6 y1.1.Zone).bind fun y7=>(bif y7 then some 10 else(Lw f_.Patrol run f_.Time).bind fun y8=>(bif (!y8)then some 14 else(Fh f_ run).bind fun y9=>(bif (!y9)then some 5 else some 0))))
def Dh (f_:Af) (run:Int):Option (Int):=
 (E9 f_.Map run).bind fun y1=>(bif (!y1.2)then some 8 else(Rz f_.Map f_.Closures run).bind fun y2=>(bif y2 then some 13 else(T9 f_.Groomers run).bind fun cr=>(bif cr then Ex f_ run y1 cr else(Ra f_.Winches f_.Time).bind fun dz=>(Bo dz run).bind fun ee=>(bif ee then Ex f_ run y1 ee else(G3 f_ y1.1.Zone).bind fun gd=>Ex f_ run y1 gd))))
theorem Jz (f_:Af) (run:Int) {r:Int} (h:Dh f_ run=some r):Ad Tryz.prog 48 [.agg (Ai f_),.int .i64 run] (·= .int .i64 r):=by
 refine Ad.nle (Ad.intro Tryz.func48 rfl rfl (by show _≤62;simp) ?_)
 unfold Dh at h
 refine nS (sq ?_)
 refine gw7 rfl ?_
 refine rg rfl fun K j=>?_
 obtain⟨y1,bp,h⟩:=Ae h
 refine Ah.pure Tryz.call53 (Eh f_.Map run bp) rfl fun _ hr=>?_
 subst hr
 refine nS ?_
 refine j _ _ (qn (sq (bk (B8 rfl ?_))))
 refine cA h rfl ?_ ?_<;>intro hc h
 ·refine gw1 rfl (br (qr ?_))
  cases h;exact en Tryz.results48
 refine rG rfl fun K j=>?_
 obtain⟨y2,cx,h⟩:=Ae h
 refine Ah.pure Tryz.call102 (iO f_.Map f_.Closures run cx) rfl fun _ hr=>?_
 subst hr
 refine nS ?_
 refine j (cA h rfl ?_ ?_)<;>intro hc h
 ·refine gw1 rfl (br (qr ?_))
  cases h;exact en Tryz.results48
 refine AWP.Ek (ι:=(Bool)×(Unit)) (fun zz=>[(1,.int .i64 run),(2,.ptr 0 0),(5,.ptr 1 0),(24,.bool zz.1)]) (fun zz=>[.box (Ai f_),.box (Bj y1.1)]) (fun zz=>Ex f_ run y1 zz.1=some r) (fun zz=>⟨rfl,rfl,rfl⟩) ?_ ?_
 ·refine rG rfl fun K j=>?_
  obtain⟨cr,dq,h⟩:=Ae h
  refine Ah.pure Tryz.call103 (kR f_.Groomers run dq) rfl fun _ hr=>?_
  subst hr
  refine nS ?_
  refine j (cA h rfl ?_ ?_)<;>intro hc h
  ·refine Co ?_
   exact⟨(cr,()),h,cu,cu⟩
  refine rG rfl fun K j=>?_
  obtain⟨dz,ff,h⟩:=Ae h
  refine Ah.pure Tryz.call104 (fK f_.Winches f_.Time ff) rfl fun _ hr=>?_
  subst hr
  refine nS ?_
  obtain⟨ee,fw,h⟩:=Ae h
  refine Ah.pure Tryz.call54 (Bt dz run fw) rfl fun _ hr=>?_
  subst hr
  refine nS ?_
  refine j (cA h rfl ?_ ?_)<;>intro hc h
  ·refine Co ?_
   exact⟨(ee,()),h,cu,cu⟩
  refine rg rfl fun K j=>?_
  obtain⟨gd,ir,h⟩:=Ae h
  refine Ah.pure Tryz.call105 (Xd f_ y1.1.Zone ir) rfl fun _ hr=>?_
  subst hr
  refine nS ?_
  refine j _ _ (qn ?_)
  exact⟨(gd,()),h,cu,cu⟩
 rintro⟨t24_3,⟨⟩⟩ h
 try dsimp only at h ⊢
 unfold Ex at h;try dsimp only at h
 refine cA h rfl ?_ ?_<;>intro hc h
 ·refine gw1 rfl (br (qr ?_))
  cases h;exact en Tryz.results48
 refine sq (dR Tryz.mixed fun K j=>?_)
 refine nS ?_
 obtain⟨y5,cw,h⟩:=Ae h
 refine Br.pure Tryz.call16 (Yb f_ cw) rfl ?_
 refine nS ?_
 obtain⟨y6,ec,h⟩:=Ae h
 refine Br.pure Tryz.call106 (Zr f_.Slides y5 ec) rfl ?_
 refine nS ?_
 obtain⟨y7,eg,h⟩:=Ae h
 refine Br.pure Tryz.call54 (Bt y6 y1.1.Zone eg) rfl ?_
 refine nS ?_
 refine j _ _ _ (by kernel_rfl) (qn (cA h rfl ?_ ?_))<;>intro hc h
 ·refine gw1 rfl (br (qr ?_))
  cases h;exact en Tryz.results48
 refine rG rfl fun K j=>?_
 obtain⟨y8,ej,h⟩:=Ae h
 refine Ah.pure Tryz.call107 (eE f_.Patrol run f_.Time ej) rfl fun _ hr=>?_
 subst hr
 refine nS ?_
 refine j (cA h rfl ?_ ?_)<;>intro hc h
 ·refine gw1 rfl (br (qr ?_))
  cases h;exact en Tryz.results48
 refine rG rfl fun K j=>?_
 obtain⟨y9,fu,h⟩:=Ae h
 refine Ah.pure Tryz.call108 (Xc f_ run fu) rfl fun _ hr=>?_
 subst hr
 refine nS ?_
 refine j (cA h rfl ?_ ?_)<;>intro hc h
 ·refine gw1 rfl (br (qr ?_))
  cases h;exact en Tryz.results48
 refine sk (bn (qn (gw1 rfl ?_)))
 cases h;exact en Tryz.results48
def Mh (k2:Nat) (aw:Cv) (sv:(List Int)):Option (Out ((List Int)) ((List Int))):=
 (bif (decide (aw.Mode=1))then chk (sv.length+1) (some (Out.next (sv++[aw.Lift])))else some (Out.next sv))
def F3 (f_:Af):Option ((List Int)):=
 (Al Mh 0 f_.Lifts []).bind fun o2=>o2.on fun s2=>some s2
theorem Xb (f_:Af) {r:(List Int)} (h:F3 f_=some r):A8 Tryz.prog 110 [.agg (Ai f_)] (·= .sl 1 (r.map An)):=by
 refine A8.nle (A8.intro Tryz.func110 rfl rfl (by show _≤23;simp) ?_)
 unfold F3 at h
 refine nS (sq ?_)
 refine gw7 rfl ?_
 refine B5 rfl ?_
 refine rg rfl fun K j=>?_
 intro hm
 refine j _ _ (qn (bk ?_))
 refine AWP.ghost 3 1 rfl (by decide) ?_
 obtain⟨o2,aj,dn⟩:=Ae h
 clear h
 refine AWP.Bh aj (0:Nat) (fun zz=>[(3,.own 1 zz.2.2 0 zz.2.1.length),(7,.sl 2 (f_.Lifts.map A4)),(8,.int .i64 ((f_.Lifts.length:Nat):Int)),(9,.int .i64 ((zz.1:Nat):Int))]) (fun zz=>[.gone,.row zz.2.2 1 (zz.2.1.map An)]) ?_
 rintro k2 bx bg df aj
 dsimp only
 refine Cy rfl ?_
 refine cD rfl ?_ ?_<;>intro hc
 ·obtain rfl:=fnD aj hc
  have h:=Ao dn;try dsimp only at h
  have af:=leD df hc
  subst af
  refine Cr rfl ?_
  cases h;exact en Tryz.results110
 obtain⟨aw,b2,az,fo,ep,h,aj⟩:=fcD aj hc
 have cj:=wk (k:=k2) (by omega)
 unfold Mh at h;try dsimp only at h
 refine gw9 (rG rfl fun K j=>?_)
 refine A1.of (f:=A4) (l:=f_.Lifts) ep ?_
 refine nS ?_
 refine j (B8 rfl ?_)
 refine cA h rfl ?_ ?_<;>intro hc h
 ·refine rg rfl fun K j=>?_
  obtain⟨hk,h⟩:=Bc h
  (repeat refine rp ?_);try simp +decide -implicitDefEqProofs only[go_sem]
  refine j _ _ (Eo rfl ?_)
  refine lE az aj h (bg+1) ?_ ?_<;>exact cuw cj
 refine gw5 rfl ?_
 refine lE az aj h bg ?_ ?_<;>exact cuw cj
theorem Ya (f_:Af) {r:(List Int)} (h:F3 f_=some r):Ad Tryz.prog 110 [.agg (Ai f_)] (·= .sl 1 (r.map An)):=(Xb f_ h).pure
def Vh (lifts:List Int) (k2:Nat) (aw:Ck) (sv:(List Ar)):Option (Out ((List Ar)) ((List Ar))):=
 (Bo lifts aw.ID).bind fun y5=>(bif y5 then chk (sv.length+1) (some (Out.next (sv++[(Ar.mk aw.ID aw.From aw.To aw.Length)])))else some (Out.next sv))
def P8 (m:Av) (lifts:List Int):Option ((List Ar)):=
 (Al (Vh lifts) 0 m.Lifts []).bind fun o2=>o2.on fun s2=>some s2
theorem fN (m:Av) (lifts:List Int) {r:(List Ar)} (h:P8 m lifts=some r):A8 Tryz.prog 267 [.agg (Be m),.sl 1 (lifts.map An)] (·= .sl 4 (r.map Bf)):=by
 refine A8.nle (A8.intro Tryz.func267 rfl rfl (by show _≤33;simp) ?_)
 unfold P8 at h
 refine nS (sq ?_)
 refine gw7 rfl ?_
 refine B5 rfl ?_
 refine rg rfl fun K j=>?_
 intro hm
 refine j _ _ (qn (bk ?_))
 refine AWP.ghost 5 4 rfl (by decide) ?_
 obtain⟨o2,aj,dn⟩:=Ae h
 clear h
 refine AWP.Bh aj (0:Nat) (fun zz=>[(1,.sl 1 (lifts.map An)),(5,.own 1 zz.2.2 0 zz.2.1.length),(9,.sl 8 (m.Lifts.map Bl)),(10,.int .i64 ((m.Lifts.length:Nat):Int)),(11,.int .i64 ((zz.1:Nat):Int))]) (fun zz=>[.gone,.row zz.2.2 4 (zz.2.1.map Bf)]) ?_
 rintro k2 bx bg df aj
 dsimp only
 refine Cy rfl ?_
 refine cD rfl ?_ ?_<;>intro hc
 ·obtain rfl:=fnD aj hc
  have h:=Ao dn;try dsimp only at h
  have af:=leD df hc
  subst af
  refine Cr rfl ?_
  cases h;exact en Tryz.results267
 obtain⟨aw,b2,az,fo,ep,h,aj⟩:=fcD aj hc
 have cj:=wk (k:=k2) (by omega)
 unfold Vh at h;try dsimp only at h
 refine gw9 (rG rfl fun K j=>?_)
 refine A1.of (f:=Bl) (l:=m.Lifts) ep ?_
 refine nS ?_
 refine j (rG rfl fun K j=>?_)
 obtain⟨y5,cw,h⟩:=Ae h
 refine Ah.pure Tryz.call54 (Bt lifts aw.ID cw) rfl fun _ hr=>?_
 subst hr
 refine nS ?_
 refine j (cA h rfl ?_ ?_)<;>intro hc h
 ·refine rg rfl fun K j=>?_
  obtain⟨hk,h⟩:=Bc h
  (repeat refine rp ?_);try simp +decide -implicitDefEqProofs only[go_sem]
  refine j _ _ (Eo rfl ?_)
  refine lE az aj h (bg+1) ?_ ?_<;>exact cuw cj
 refine gw5 rfl ?_
 refine lE az aj h bg ?_ ?_<;>exact cuw cj
theorem j6 (m:Av) (lifts:List Int) {r:(List Ar)} (h:P8 m lifts=some r):Ad Tryz.prog 267 [.agg (Be m),.sl 1 (lifts.map An)] (·= .sl 4 (r.map Bf)):=(fN m lifts h).pure
def R7 (runs:List Int) (k2:Nat) (aw:Cn) (sv:(List Ar)):Option (Out ((List Ar)) ((List Ar))):=
 (Bo runs aw.ID).bind fun y5=>(bif y5 then chk (sv.length+1) (some (Out.next (sv++[(Ar.mk aw.ID aw.From aw.To aw.Length)])))else some (Out.next sv))
def Iw (m:Av) (runs:List Int):Option ((List Ar)):=
 (Al (R7 runs) 0 m.Runs []).bind fun o2=>o2.on fun s2=>some s2
theorem bX (m:Av) (runs:List Int) {r:(List Ar)} (h:Iw m runs=some r):A8 Tryz.prog 215 [.agg (Be m),.sl 1 (runs.map An)] (·= .sl 4 (r.map Bf)):=by
 refine A8.nle (A8.intro Tryz.func215 rfl rfl (by show _≤33;simp) ?_)
 unfold Iw at h
 refine nS (sq ?_)
 refine gw7 rfl ?_
 refine B5 rfl ?_
 refine rg rfl fun K j=>?_
 intro hm
 refine j _ _ (qn (bk ?_))
 refine AWP.ghost 5 4 rfl (by decide) ?_
 obtain⟨o2,aj,dn⟩:=Ae h
 clear h
 refine AWP.Bh aj (0:Nat) (fun zz=>[(1,.sl 1 (runs.map An)),(5,.own 1 zz.2.2 0 zz.2.1.length),(9,.sl 7 (m.Runs.map Bj)),(10,.int .i64 ((m.Runs.length:Nat):Int)),(11,.int .i64 ((zz.1:Nat):Int))]) (fun zz=>[.gone,.row zz.2.2 4 (zz.2.1.map Bf)]) ?_
 rintro k2 bx bg df aj
 dsimp only
 refine Cy rfl ?_
 refine cD rfl ?_ ?_<;>intro hc
 ·obtain rfl:=fnD aj hc
  have h:=Ao dn;try dsimp only at h
  have af:=leD df hc
  subst af
  refine Cr rfl ?_
  cases h;exact en Tryz.results215
 obtain⟨aw,b2,az,fo,ep,h,aj⟩:=fcD aj hc
 have cj:=wk (k:=k2) (by omega)
 unfold R7 at h;try dsimp only at h
 refine gw9 (rG rfl fun K j=>?_)
 refine A1.of (f:=Bj) (l:=m.Runs) ep ?_
 refine nS ?_
 refine j (rG rfl fun K j=>?_)
 obtain⟨y5,cw,h⟩:=Ae h
 refine Ah.pure Tryz.call54 (Bt runs aw.ID cw) rfl fun _ hr=>?_
 subst hr
 refine nS ?_
 refine j (cA h rfl ?_ ?_)<;>intro hc h
 ·refine rg rfl fun K j=>?_
  obtain⟨hk,h⟩:=Bc h
  (repeat refine rp ?_);try simp +decide -implicitDefEqProofs only[go_sem]
  refine j _ _ (Eo rfl ?_)
  refine lE az aj h (bg+1) ?_ ?_<;>exact cuw cj
 refine gw5 rfl ?_
 refine lE az aj h bg ?_ ?_<;>exact cuw cj
theorem Us (m:Av) (runs:List Int) {r:(List Ar)} (h:Iw m runs=some r):Ad Tryz.prog 215 [.agg (Be m),.sl 1 (runs.map An)] (·= .sl 4 (r.map Bf)):=(bX m runs h).pure
def Oi (k6:Nat) (dr:Ar) (sv:(List Ar)):Option (Out ((List Ar)) (Out ((List Ar)) ((List Ar)))):=
 chk (sv.length+1) (some (Out.next (sv++[(Ar.mk ((sv.length:Nat):Int) dr.From dr.To dr.Cost)])))
def Ss (k2:Nat) (aw:List Ar) (sv:(List Ar)):Option (Out ((List Ar)) ((List Ar))):=
 (Al Oi 0 aw sv).bind fun o6=>o6.on fun s6=>some (Out.next s6)
def Nz (lists:List (List Ar)):Option ((List Ar)):=
 (Al Ss 0 lists []).bind fun o2=>o2.on fun s2=>some s2
theorem Xv (lists:List (List Ar)) {r:(List Ar)} (h:Nz lists=some r):A8 Tryz.prog 214 [.sl 1 (lists.map Kf)] (·= .sl 4 (r.map Bf)):=by
 refine A8.nle (A8.intro Tryz.func214 rfl rfl (by show _≤30;simp) ?_)
 unfold Nz at h
 refine nS (sq ?_)
 refine gw7 rfl ?_
 refine B5 rfl ?_
 refine rg rfl fun K j=>?_
 intro hm
 refine j _ _ (qn (bk ?_))
 refine AWP.ghost 3 4 rfl (by decide) ?_
 obtain⟨o2,aj,dn⟩:=Ae h
 clear h
 refine AWP.Bh aj (0:Nat) (fun zz=>[(3,.own 0 zz.2.2 0 zz.2.1.length),(8,.sl 1 (lists.map Kf)),(9,.int .i64 ((lists.length:Nat):Int)),(10,.int .i64 ((zz.1:Nat):Int))]) (fun zz=>[.row zz.2.2 4 (zz.2.1.map Bf)]) ?_
 rintro k2 bx bg df aj
 dsimp only
 refine Cy rfl ?_
 refine cD rfl ?_ ?_<;>intro hc
 ·obtain rfl:=fnD aj hc
  have h:=Ao dn;try dsimp only at h
  have af:=leD df hc
  subst af
  refine Cr rfl ?_
  cases h;exact en Tryz.results214
 obtain⟨aw,b2,az,fo,ep,h,aj⟩:=fcD aj hc
 have cj:=wk (k:=k2) (by omega)
 unfold Ss at h;try dsimp only at h
 refine gw9 (rG rfl fun K j=>?_)
 refine A1.of (f:=Kf) (l:=lists) ep ?_
 refine nS ?_
 refine j (rG rfl fun K j=>?_)
 intro hm
 refine j (bk ?_)
 obtain⟨o6,dx,mc⟩:=Ae h
 clear h
 refine AWP.Bh dx (bg:Nat) (fun zz=>[(3,.own 0 zz.2.2 0 zz.2.1.length),(8,.sl 1 (lists.map Kf)),(9,.int .i64 ((lists.length:Nat):Int)),(10,.int .i64 ((k2:Nat):Int)),(14,.sl 4 (aw.map Bf)),(15,.int .i64 ((aw.length:Nat):Int)),(16,.int .i64 ((zz.1:Nat):Int))]) (fun zz=>[.row zz.2.2 4 (zz.2.1.map Bf)]) ?_
 rintro k6 na jn uc dx
 dsimp only
 refine Cy rfl ?_
 refine cC rfl ?_ ?_<;>intro hc
 ·obtain⟨dr,b6,iz,tr,nw,h,dx⟩:=fcD dx hc
  have ou:=wk (k:=k6) (by omega)
  unfold Oi at h;try dsimp only at h
  refine gw9 (rG rfl fun K j=>?_)
  refine A1.of (f:=Bf) (l:=aw) nw ?_
  refine nS ?_
  refine j (rG rfl fun K j=>?_)
  intro hm
  refine j (rg rfl fun K j=>?_)
  obtain⟨hk,h⟩:=Bc h
  (repeat refine rp ?_);try simp +decide -implicitDefEqProofs only[go_sem]
  refine j _ _ (Eo rfl ?_)
  refine lE iz dx h (jn+1) ?_ ?_<;>exact cuw ou
 obtain rfl:=fnD dx hc
 have h:=Ao mc;try dsimp only at h
 have af:=leD uc hc
 subst af
 refine xt (qe (qe (bs (Eo rfl ?_))))
 refine lE az aj h jn ?_ ?_<;>exact cuw cj
def B9 (s_:List Int):Option (List Int):=chk s_.length (some s_)
theorem Gq (s_:List Int) {r:List Int} (h:B9 s_=some r):Dm Tryz.prog 67 [.sl 1 (s_.map An)] 1 (r.map An):=by
 have hk:=(Bc h).1
 have hr:r=s_:=Aa (Bc h).2
 rw[hr];clear hr h
 refine Dm.of ?_
 refine C0.weak (R:=fun q H=>∃ v rest,q= .own 0 v 0 (s_.map An).length∧H= .row v 1 (s_.map An)::rest) (C0.intro Tryz.func67 rfl rfl (by show _≤8;simp) ?_) (fun q H hq=>?_)
 ·refine nS (sq ?_)
  refine B5 rfl ?_
  refine rg rfl fun K j=>?_
  intro bnil hb
  refine nS ?_
  refine j _ _ (qn (cC rfl ?_ ?_))<;>intro hc
  ·have ao:s_=[]:=Classical.byContradiction fun bj=>by have:=hb (by simpa using bj);simp[this]at hc
   subst ao
   refine B8 rfl ?_
   refine AWP.ghost 2 1 rfl (by decide) ?_
   refine nS (rt (qr ?_))
   refine nSc Tryz.results67 ?_
   refine⟨_,_,?_,rfl⟩
   (try simp +decide -implicitDefEqProofs only[go_sem,Aow,Aou,List.length_cons,List.length_nil,List.length_set,Aov]);try rfl
  clear hc
  refine Co (rG rfl fun K j=>?_)
  (repeat refine rp ?_);try simp +decide -implicitDefEqProofs only[go_sem]
  refine j (rt ?_)
  refine nSc Tryz.results67 ?_
  refine⟨_,_,?_,rfl⟩
  (try simp +decide -implicitDefEqProofs only[go_sem,Aow,Aou,List.length_cons,List.length_nil,List.length_set,Aov]);try rfl
 obtain⟨v,rest,rfl,rfl⟩:=hq
 exact⟨[.row v 1 (s_.map An)],⟨⟨rfl,rfl,rfl⟩,by cases rest<;>trivial⟩,rfl,rfl,⟨v,rfl,rfl⟩⟩
theorem Sw (s_:List Int) {r:List Int} (h:B9 s_=some r):A8 Tryz.prog 67 [.sl 1 (s_.map An)] (·= .sl 1 (r.map An)):=A8.nle (C0.fresh (C0.mono (Gq s_ h) fun q H=>by rintro⟨rfl,rfl⟩;simp +decide -implicitDefEqProofs only[go_sem,Et,Ac.int.injEq,Int.natCast_zero,List.replicate_zero,List.length_take,List.length_drop,Ac.own.injEq,reduceCtorEq,Int.reduceAdd,Wp,Wq,Sf,Wo,Se,Aow]))
theorem C4 (s_:List Int) {r:List Int} (h:B9 s_=some r):Ad Tryz.prog 67 [.sl 1 (s_.map An)] (·= .sl 1 (r.map An)):=(Sw s_ h).pure
def Ce (l:List Ar):List (Int×List Int):=l.foldl (fun g e=>gadd g e.From e.To) []
theorem Zd (l:List Ar):∀ n,n≤l.length→∀ p∈Ce (l.take n),1≤p.2.length∧p.2.length≤n:=by
 intro n
 induction n with
 | zero=>intro _ p hp;simp[Ce]at hp
 | succ n ih=>
  intro h
  have hx:l[n]? =some l[n]:=Aoq (by omega)
  have e:Ce (l.take (n+1))=gadd (Ce (l.take n)) l[n].From l[n].To:=by
   unfold Ce;rw[List.take_add_one,hx,List.foldl_append];rfl
  rw[e]
  exact Acf (ih (by omega)) _ _
theorem Yc {l:List Ar} {k:Nat} {e:Ar} (h:l[k]? =some e):Ce (l.take (k+1))=gadd (Ce (l.take k)) e.From e.To:=by
 unfold Ce;rw[List.take_add_one,h,List.foldl_append];rfl
def Gh (l:List Ar) (sv:(List (Int×Bool))×(List Int)):Option (Out ((List (Int×Bool))×(List Int)) ((List Int))):=
 (bif (decide (0<((sv.2.length:Nat):Int)))then (Da sv.2 (IntKind.i64.wrap (((sv.2.length:Nat):Int) - 1))).bind fun cp=>okB (decide (0≤(IntKind.i64.wrap (((sv.2.length:Nat):Int) - 1))∧(IntKind.i64.wrap (((sv.2.length:Nat):Int) - 1))≤((sv.2.length:Nat):Int))) ((bif (!(mget false sv.1 cp))then chk ((IntKind.i64.wrap (((sv.2.length:Nat):Int) - 1)).toNat+(mget [] (Ce l) cp).length) (some (Out.next ((mset sv.1 cp true),((sv.2.take (IntKind.i64.wrap (((sv.2.length:Nat):Int) - 1)).toNat)++(mget [] (Ce l) cp)))))else some (Out.next (sv.1,(sv.2.take (IntKind.i64.wrap (((sv.2.length:Nat):Int) - 1)).toNat)))))else (okB (decide (∀ k∈mkeys sv.1, -9223372036854775808≤k∧k≤9223372036854775807)) (chk sv.1.length (some (Dn (mkeys sv.1))))).bind fun q6=>some (Out.ret q6))
def G5 (l:List Ar) (from_:List Int):Option ((List Int)):=
 chk l.length ((B9 from_).bind fun y1=>(Dx (Gh l) fuel ([],y1)).bind fun o4=>o4.on fun _=>none)
theorem X5 (l:List Ar) (from_:List Int) {r:(List Int)} (h:G5 l from_=some r):Dm Tryz.prog 266 [.sl 4 (l.map Bf),.sl 1 (from_.map An)] 1 (r.map An):=by
 refine Dm.of ?_
 refine C0.weak (R:=fun q H=>∃ v0 rest,q= .own 0 v0 0 (r.map An).length∧H= .row v0 1 (r.map An)::rest) (C0.intro Tryz.func266 rfl rfl (by show _≤61;simp) ?_) (fun q H hq=>?_)
 ·unfold G5 at h
  refine nS (sq ?_)
  refine gw7 rfl ?_
  refine B5 rfl ?_
  refine rg rfl fun K j=>?_
  intro hm
  refine j _ _ (qn ?_)
  obtain⟨hl,h⟩:=Bc h
  refine bk ?_
  refine AWP.tN (ι:=Nat×List (Int×List Int)) (fun zz=>[(0,.sl 4 (l.map Bf)),(1,.sl 1 (from_.map An)),(5,.map 0),(12,.sl 4 (l.map Bf)),(13,.int .i64 ((l.length:Nat):Int)),(14,.int .i64 ((zz.1:Nat):Int))]) (fun zz=>.mpo false (gE 1 zz.2)::gR zz.2) (fun zz=>zz.1≤l.length∧zz.2=Ce (l.take zz.1)) (fun zz=>l.length - zz.1) (0,[]) ⟨Nat.zero_le _,rfl⟩
   (by(simp (implicitDefEqProofs:=false) (decide:=true) only[go_sem,Nat.reduceAdd,Nat.reduceMul,Nat.reduceSub,Int.reduceToNat,Et,Int.natCast_zero,List.replicate_zero,List.length_take,List.length_drop,Ac.own.injEq,reduceCtorEq,Int.reduceAdd]<;>omega)) (by exact⟨⟨rfl,rfl⟩,trivial⟩)
   (fun zz=>⟨by simp[Mc,Ac.R2,Ac.Zq,Ac.bE,Ac.c9],Afe zz.2 (by rw[List.length_cons,rE];omega),rfl⟩) ?_
  rintro⟨k,g⟩ ⟨hk,hg⟩
  dsimp only at hk hg ⊢
  refine Cy rfl ?_
  refine cC rfl ?_ ?_<;>intro hc
  ·have ah:k<l.length:=by have:=Aon hc;omega
   have ao:l[k]? =some l[k]:=Aoq ah
   have hx:=eN ah
   generalize l[k]=e at hx ao
   have hw:IntKind.i64.wrap (((k:Nat):Int)+1)=(((k+1:Nat)):Int):=S5 (by omega)
   refine gw9 (rG rfl fun K j=>?_)
   refine A1.of (f:=Bf) (l:=l) hx ?_
   (try simp +decide -implicitDefEqProofs only[go_sem])
   (try simp (implicitDefEqProofs:=false) (decide:=true) only[go_sem,Nat.reduceAdd,Nat.reduceMul,Nat.reduceSub,Int.reduceToNat,apN,ga0,ga1,ga2,sa0,sa1,sa2,List.drop_succ_cons,List.drop_zero,List.headD_cons])
   refine j ?_
   have xu:((gR g).length+1+1=(gR g).length+3+1)=False:=by simp
   have xq:((gR g).length+1+1+1=(gR g).length+3+1)=False:=by simp
   have xp:((gR g).length+1+1=(gR g).length+1+1+1+1)=False:=by simp
   have xn:((gR g).length+1+1+1=(gR g).length+1+1+1+1)=False:=by simp
   have hinv:=Zd l k hk
   rw[← hg]at hinv
   have rj:=Yc ao
   rw[← hg]at rj
   refine dR Tryz.mixed fun K j=>?_
   (try simp (implicitDefEqProofs:=false) (decide:=true) only[go_sem,Nat.reduceAdd,Nat.reduceMul,Nat.reduceSub,Int.reduceToNat,apN,ga0,ga1,ga2,sa0,sa1,sa2,List.drop_succ_cons,List.drop_zero,List.headD_cons])
   refine Ev.mk' (fun v hv=>?_) (fun hn=>?_)
   ·obtain⟨i,xs,hi,hv2,dh,si,hgset⟩:=u6 g 1 e.From v hv
    have hil:i<(gR g).length:=by rw[rE];exact(Aoz.1 hi).1
    have kz:∀ (B:List Ak),(gR g++B)[i]? =some (.row (xs.length - 1) 1 (xs.map An)):=fun B=>by
     rw[List.getElem?_append_left hil];unfold gR;rw[List.getElem?_map,hi];rfl
    have ix:∀ (x:Ak) (B:List Ak),(gR g++B).set i x=(gR g).set i x++B:=fun x B=>List.set_append_left _ _ hil
    have sw:=hinv _ (Aor hi)
    subst hv2
    clear hv
    (try simp (implicitDefEqProofs:=false) (decide:=true) only[go_sem,Nat.reduceAdd,Nat.reduceMul,Nat.reduceSub,Int.reduceToNat,apN,ga0,ga1,ga2,sa0,sa1,sa2,List.drop_succ_cons,List.drop_zero,List.headD_cons,xu,xq,xp,xn])
    (try simp only[kz])
    (try simp (implicitDefEqProofs:=false) (decide:=true) only[go_sem,Nat.reduceAdd,Nat.reduceMul,Nat.reduceSub,Int.reduceToNat,apN,ga0,ga1,ga2,sa0,sa1,sa2,List.drop_succ_cons,List.drop_zero,List.headD_cons,xu,xq,xp,xn])
    refine⟨by simp only at sw;omega,by simp only at sw;omega,?_⟩
    refine j _ _ _ (pF (fun n=>if n=0 then 0 else if n=1 then(gR g).length+1 else if n=2 then(gR g).length+1+1 else if n=3 then(gR g).length+1+1+1 else i+1) 5
     [(11,[0],true),(10,[3,4,2],true),(9,[2],true),(8,[1],false),(6,[0],false),(5,[1],false),(2,[1],false)] (by kernel_rfl) (fun a b ha hb=>?_) (by kernel_rfl)) ?_
    ·have ha':a=0∨a=1∨a=2∨a=3∨a=4:=by omega
     have fb:b=0∨b=1∨b=2∨b=3∨b=4:=by omega
     rcases ha' with rfl | rfl | rfl | rfl | rfl<;>rcases fb with rfl | rfl | rfl | rfl | rfl<;>simp<;>omega
    clear j K
    refine Eo rfl ?_
    have tx:(xs++[e.To]).length=xs.length+1:=by simp
    have jy:xs.length - 1+1=xs.length+1 - 1:=by simp only at sw;omega
    have e1:=si (xs++[e.To])
    have e2:=hgset (xs++[e.To])
    rw[tx]at e1 e2
    refine⟨(k+1,gadd g e.From e.To),⟨by dsimp only;omega,rj.symm⟩,by dsimp only;omega,_,_,Sub.refl',?_,?_⟩
    ·(simp (implicitDefEqProofs:=false) (decide:=true) only[go_sem,Nat.reduceAdd,Nat.reduceMul,Nat.reduceSub,Int.reduceToNat,Et,Int.natCast_zero,List.replicate_zero,List.length_take,List.length_drop,Ac.own.injEq,reduceCtorEq,Int.reduceAdd,hw]<;>omega)
    rw[ix,jy,e1,e2]
    unfold gadd
    rw[dh]
    exact Abc _ _
   (try simp (implicitDefEqProofs:=false) (decide:=true) only[go_sem,Nat.reduceAdd,Nat.reduceMul,Nat.reduceSub,Int.reduceToNat,apN,ga0,ga1,ga2,sa0,sa1,sa2,List.drop_succ_cons,List.drop_zero,List.headD_cons,xu,xq,xp,xn])
   refine j _ _ _ (pF (fun n=>if n=0 then 0 else if n=1 then(gR g).length+1 else if n=2 then(gR g).length+1+1 else(gR g).length+1+1+1) 4
    [(11,[0],true),(10,[3,2],true),(9,[2],true),(8,[1],false),(6,[0],false),(5,[1],false),(2,[1],false)] (by kernel_rfl) (fun a b ha hb=>?_) (by kernel_rfl)) ?_
   ·have ha':a=0∨a=1∨a=2∨a=3:=by omega
    have fb:b=0∨b=1∨b=2∨b=3:=by omega
    rcases ha' with rfl | rfl | rfl | rfl<;>rcases fb with rfl | rfl | rfl | rfl<;>simp<;>omega
   clear j K
   refine Eo rfl ?_
   obtain⟨dh,si,hmset⟩:=bS g 1 e.From hn
   have hgd:gadd g e.From e.To=g++[(e.From,[e.To])]:=by unfold gadd;rw[dh,hmset];rfl
   have hm1:(Ak.mpo false (aset (gE 1 g) e.From (Ac.own ((gR g).length+1+1+1) 0 0 1))::(gR g++[Ak.box [Ac.int IntKind.i64 e.ID,Ac.int IntKind.i64 e.From,Ac.int IntKind.i64 e.To,Ac.int IntKind.i64 e.Cost],Ak.row 0 1 [[Ac.int IntKind.i64 e.To]],Ak.row 0 1 [[Ac.int IntKind.i64 e.To]]]))[(gR g).length+1]? =some (Ak.box [Ac.int IntKind.i64 e.ID,Ac.int IntKind.i64 e.From,Ac.int IntKind.i64 e.To,Ac.int IntKind.i64 e.Cost]):=by
    rw[List.getElem?_cons_succ];exact ga0 _ _ _
   have hm3:(Ak.mpo false (aset (gE 1 g) e.From (Ac.own ((gR g).length+1+1+1) 0 0 1))::(gR g++[Ak.box [Ac.int IntKind.i64 e.ID,Ac.int IntKind.i64 e.From,Ac.int IntKind.i64 e.To,Ac.int IntKind.i64 e.Cost],Ak.row 0 1 [[Ac.int IntKind.i64 e.To]],Ak.row 0 1 [[Ac.int IntKind.i64 e.To]]]))[(gR g).length+1+1+1]? =some (Ak.row 0 1 [[Ac.int IntKind.i64 e.To]]):=by
    rw[List.getElem?_cons_succ];exact ga2 _ _ _ _ _
   refine⟨(k+1,gadd g e.From e.To),⟨by dsimp only;omega,rj.symm⟩,by dsimp only;omega,_,_,Sub.swap ((gR g).length+1) ((gR g).length+1+1+1) hm1 hm3 rfl,?_,?_⟩
   ·(simp (implicitDefEqProofs:=false) (decide:=true) only[go_sem,Nat.reduceAdd,Nat.reduceMul,Nat.reduceSub,Int.reduceToNat,Et,Int.natCast_zero,List.replicate_zero,List.length_take,List.length_drop,Ac.own.injEq,reduceCtorEq,Int.reduceAdd,hw]<;>omega)
   have hsw:swp ((gR g).length+1) ((gR g).length+1+1+1) ((gR g).length+1+1+1)=(gR g).length+1:=by unfold swp;rw[if_neg (by omega),if_pos rfl]
   have hre:Wb (swp ((gR g).length+1) ((gR g).length+1+1+1)) (gE 1 g)=gE 1 g:=x3 g 1 fun i h1 h2=>by
    rw[← rE]at h2
    unfold swp;rw[if_neg (by omega),if_neg (by omega)]
   unfold Yl
   simp only[X7,j8,sM,x1,si,sP,hre,Wb,ren,hsw,List.set_cons_succ,sa0,sa2,rens]
   rw[hgd,Acg,rE]
   have:gR (g++[(e.From,[e.To])])=gR g++[Ak.row 0 1 [[Ac.int IntKind.i64 e.To]]]:=by simp[gR,An]
   refine⟨?_,?_⟩
   ·exact⟨rfl,rfl⟩
   rw[this]
   have:=lO (gR g++[Ak.row 0 1 [[Ac.int IntKind.i64 e.To]]]) [Ak.row 0 1 [[Ac.int IntKind.i64 e.To]],Ak.box [Ac.int IntKind.i64 e.ID,Ac.int IntKind.i64 e.From,Ac.int IntKind.i64 e.To,Ac.int IntKind.i64 e.Cost]] (by
    intro o ho
    rcases Aox.1 ho with ho | ho
    ·exact mV g o ho
    ·simp at ho;subst ho;simp)
   rw[apN]at this
   exact this
  have af:k=l.length:=by have:=Aom hc;omega
  subst af
  rw[List.take_length]at hg
  refine gw4 ?_
  refine AWP.sub (Sub.weak (fr':=[(1,.sl 1 (from_.map An)),(5,.map 0)]) (H':=.mpo false (gE 1 g)::gR g) (Abc g [] |> fun h=>by rwa [List.append_nil]at h) (by(simp (implicitDefEqProofs:=false) (decide:=true) only[go_sem,Nat.reduceAdd,Nat.reduceMul,Nat.reduceSub,Int.reduceToNat,Et,Int.natCast_zero,List.replicate_zero,List.length_take,List.length_drop,Ac.own.injEq,reduceCtorEq,Int.reduceAdd]<;>omega)) (.inl rfl)) ?_
  refine AWP.sub (Sub.groups (fun _ _ _ _=>rfl) (by(simp (implicitDefEqProofs:=false) (decide:=true) only[go_sem,Nat.reduceAdd,Nat.reduceMul,Nat.reduceSub,Int.reduceToNat,Et,Int.natCast_zero,List.replicate_zero,List.length_take,List.length_drop,Ac.own.injEq,reduceCtorEq,Int.reduceAdd]<;>omega)) rfl rfl g) ?_
  subst hg
  refine Cy rfl ?_
  refine rg rfl fun K j=>?_
  obtain⟨y1,bp,h⟩:=Ae h
  refine Ah.row Tryz.call67 (Gq from_ bp) rfl 2 rfl ?_
  (try simp +decide -implicitDefEqProofs only[go_sem,Aow])
  refine j _ _ (qn (sq (bk ?_)))
  obtain⟨o4,ck,jl⟩:=Ae h
  clear h
  refine AWP.Ma (ι:=Nat×((List (Int×Bool))×(List Int))×(Nat)) (fun zz=>[(5,.map 0),(8,.map 1),(9,.own 2 zz.2.2 0 zz.2.1.2.length)]) (fun zz=>[.mp (mpE E2 (Ce l)),.mp (mpE jT zz.2.1.1),.row zz.2.2 1 (zz.2.1.2.map An)]) (fun zz=>Dx (Gh l) zz.1 zz.2.1=some o4) (fun zz=>zz.1) (fuel,([],y1),0) ck cu cu (fun x=>⟨rfl,rfl,rfl⟩) ?_
  clear ck
  rintro⟨n4,⟨reached2,open_3⟩,ot⟩ ck
  dsimp only at ck ⊢
  obtain⟨m4,b4,rfl,h,ck⟩:=Fp ck
  unfold Gh at h;try dsimp only at h
  refine sq (rG rfl fun K j=>?_)
  intro hm
  refine j (cB h rfl ?_ ?_)<;>intro hc h
  ·refine xt (qe (qe ?_))
   obtain⟨q6,hq,h⟩:=Ae h
   obtain rfl:=Aa h
   obtain rfl:=G7 ck
   replace h:=hq.trans (Pg jl)
   refine bs (qn (rG rfl fun K j=>?_))
   refine Ah.X4 Tryz.call282 Tryz.keys282 rfl ?_
   refine nS ?_
   obtain⟨bb,h⟩:=Fv h
   obtain⟨hk,h⟩:=Bc h
   refine Ah.r9 Tryz.call281 Tryz.sortedKeys281 rfl rfl bb hk ?_
   refine nS ?_
   refine j ?_
   refine AWP.sub (Sub.swap 4 0 rfl rfl rfl) ?_
   refine nS (rt ?_)
   obtain rfl:=Aa h
   refine nSc Tryz.results266 ?_
   refine⟨_,_,?_,rfl⟩
   (try simp +decide -implicitDefEqProofs only[go_sem,Aow,Aou,List.length_cons,List.length_nil,List.length_set,Aov]);try rfl
  refine Co (bk (rG rfl fun K j=>?_))
  intro hm
  obtain⟨cp,gv,h⟩:=Ae h
  refine Ge gv (by first | rfl | exact(Cq _).symm | (simp only[Aou,List.length_cons,List.length_nil,List.length_set,Aov]<;>omega)) ?_
  refine nS ?_
  refine Dg.of (f:=An) (l:=open_3) (n:=(IntKind.i64.wrap (((open_3.length:Nat):Int) - 1))) gv ?_
  refine nS ?_
  refine j (rG rfl fun K j=>?_)
  intro hm
  obtain⟨hk,h⟩:=Fv h
  (repeat(refine⟨by omega,?_⟩))
  refine j ?_
  refine AWP.sub (Sub.window 9 rfl rfl) ?_
  refine nS (sq ?_)
  refine rg rfl fun K j=>?_
  refine Ev.of (f:=jT) (m:=reached2) (d:=false) rfl ?_
  refine nS ?_
  refine j _ _ (qn (cA h rfl ?_ ?_))<;>intro hc h
  ·refine B8 rfl ?_
   refine rg rfl fun K j=>?_
   refine Ev.of (f:=E2) (m:=(Ce l)) (d:=[]) rfl ?_
   refine nS ?_
   obtain⟨hk,h⟩:=Bc h
   (repeat refine rp ?_);try simp +decide -implicitDefEqProofs only[go_sem]
   refine j _ _ (bn (qn ?_))
   obtain rfl:=Aa h
   refine⟨(m4,((mset reached2 cp true),((open_3.take (IntKind.i64.wrap (((open_3.length:Nat):Int) - 1)).toNat)++(mget [] (Ce l) cp))),((ot+1)+1)),Cj ck,by dsimp only;omega,?_,?_⟩
   ·exact cu
   exact cu
  refine sk (bn (qn ?_))
  obtain rfl:=Aa h
  refine⟨(m4,(reached2,(open_3.take (IntKind.i64.wrap (((open_3.length:Nat):Int) - 1)).toNat)),(ot+1)),Cj ck,by dsimp only;omega,?_,?_⟩
  ·exact cu
  exact cu
 obtain⟨v0,rest,rfl,rfl⟩:=hq
 refine⟨[.row v0 1 (r.map An)],?_,?_,?_,⟨v0,rfl,rfl⟩⟩
 all_goals exact cu
def Hs (m:Av) (lifts:List Int) (runs:List Int):Option ((List Int)):=
 (P8 m lifts).bind fun y1=>(Iw m runs).bind fun y2=>(Nz [y1,y2]).bind fun y3=>(G5 y3 m.Bases).bind fun y4=>some y4
theorem Yj (m:Av) (lifts:List Int) (runs:List Int) {r:(List Int)} (h:Hs m lifts runs=some r):A8 Tryz.prog 212 [.agg (Be m),.sl 1 (lifts.map An),.sl 1 (runs.map An)] (·= .sl 1 (r.map An)):=by
 refine A8.nle (A8.intro Tryz.func212 rfl rfl (by show _≤18;simp) ?_)
 unfold Hs at h
 refine nS (sq ?_)
 refine gw7 rfl ?_
 refine dR Tryz.mixed fun K j=>?_
 refine nS ?_
 obtain⟨y1,bp,h⟩:=Ae h
 refine Br.pure Tryz.call267 (j6 m lifts bp) rfl ?_
 refine nS ?_
 obtain⟨y2,cx,h⟩:=Ae h
 refine Br.pure Tryz.call215 (Us m runs cx) rfl ?_
 refine nS ?_
 obtain⟨y3,bu,h⟩:=Ae h
 refine Br.oT Tryz.call214 (Xv [y1,y2] bu) (by simp +decide -implicitDefEqProofs only[go_sem]) ?_
 refine nS ?_
 obtain⟨y4,ch,h⟩:=Ae h
 refine Br.row Tryz.call266 (X5 y3 m.Bases ch) rfl ?_
 (try simp +decide -implicitDefEqProofs only[go_sem,Aow])
 refine j _ _ _ (by kernel_rfl) (Cu ?_)
 cases h;exact en Tryz.results212
theorem aU (m:Av) (lifts:List Int) (runs:List Int) {r:(List Int)} (h:Hs m lifts runs=some r):Ad Tryz.prog 212 [.agg (Be m),.sl 1 (lifts.map An),.sl 1 (runs.map An)] (·= .sl 1 (r.map An)):=(Yj m lifts runs h).pure
def Te (m:Av) (lifts:List Int) (runs:List Int) (run:Int):Option (Bool):=
 (E9 m run).bind fun y1=>(bif y1.2 then(Hs m lifts runs).bind fun y2=>(Bo y2 y1.1.From).bind fun y3=>some y3 else some false)
theorem j5 (m:Av) (lifts:List Int) (runs:List Int) (run:Int) {r:Bool} (h:Te m lifts runs run=some r):Ad Tryz.prog 109 [.agg (Be m),.sl 1 (lifts.map An),.sl 1 (runs.map An),.int .i64 run] (·= .bool r):=by
 refine Ad.nle (Ad.intro Tryz.func109 rfl rfl (by show _≤27;simp) ?_)
 unfold Te at h
 refine nS (sq ?_)
 refine gw7 rfl ?_
 refine rg rfl fun K j=>?_
 obtain⟨y1,bp,h⟩:=Ae h
 refine Ah.pure Tryz.call53 (Eh m run bp) rfl fun _ hr=>?_
 subst hr
 refine nS ?_
 refine j _ _ (qn (sq (dR Tryz.mixed fun K j=>?_)))
 refine nS ?_
 refine gT h ?_ ?_<;>intro hc h
 ·obtain⟨y2,cx,h⟩:=Ae h
  refine Br.pure Tryz.call212 (aU m lifts runs cx) rfl ?_
  refine nS ?_
  obtain⟨y3,bu,h⟩:=Ae h
  refine Br.pure Tryz.call54 (Bt y2 y1.1.From bu) rfl ?_
  refine nS ?_
  refine j _ _ _ (by kernel_rfl) (Cu ?_)
  cases h;exact en Tryz.results109
 refine j _ _ _ (by kernel_rfl) (Cu ?_)
 cases h;exact en Tryz.results109
def E1 (s_:List Ar):Option (List Ar):=chk s_.length (some s_)
theorem Mw (s_:List Ar) {r:List Ar} (h:E1 s_=some r):Dm Tryz.prog 268 [.sl 4 (s_.map Bf)] 4 (r.map Bf):=by
 have hk:=(Bc h).1
 have hr:r=s_:=Aa (Bc h).2
 rw[hr];clear hr h
 refine Dm.of ?_
 refine C0.weak (R:=fun q H=>∃ v rest,q= .own 0 v 0 (s_.map Bf).length∧H= .row v 4 (s_.map Bf)::rest) (C0.intro Tryz.func268 rfl rfl (by show _≤8;simp) ?_) (fun q H hq=>?_)
 ·refine nS (sq ?_)
  refine B5 rfl ?_
  refine rg rfl fun K j=>?_
  intro bnil hb
  refine nS ?_
  refine j _ _ (qn (cC rfl ?_ ?_))<;>intro hc
  ·have ao:s_=[]:=Classical.byContradiction fun bj=>by have:=hb (by simpa using bj);simp[this]at hc
   subst ao
   refine B8 rfl ?_
   refine AWP.ghost 2 4 rfl (by decide) ?_
   refine nS (rt (qr ?_))
   refine nSc Tryz.results268 ?_
   refine⟨_,_,?_,rfl⟩
   (try simp +decide -implicitDefEqProofs only[go_sem,Aow,Aou,List.length_cons,List.length_nil,List.length_set,Aov]);try rfl
  clear hc
  refine Co (rG rfl fun K j=>?_)
  (repeat refine rp ?_);try simp +decide -implicitDefEqProofs only[go_sem]
  refine j (rt ?_)
  refine nSc Tryz.results268 ?_
  refine⟨_,_,?_,rfl⟩
  (try simp +decide -implicitDefEqProofs only[go_sem,Aow,Aou,List.length_cons,List.length_nil,List.length_set,Aov]);try rfl
 obtain⟨v,rest,rfl,rfl⟩:=hq
 exact⟨[.row v 4 (s_.map Bf)],⟨⟨rfl,rfl,rfl⟩,by cases rest<;>trivial⟩,rfl,rfl,⟨v,rfl,rfl⟩⟩
def Q6 (k3:Nat) (cm:Ar) (sv:(List Ar)):Option (Out ((List Ar)) ((List Int))):=
 (Da sv ((k3:Nat):Int)).bind fun cp=>some (Out.next ((sv.set k3 (Ar.mk cp.ID cm.To cp.To cp.Cost)).set k3 (Ar.mk cp.ID cm.To cm.From cp.Cost)))
def Ua (l:List Ar) (to_:List Int):Option ((List Int)):=
 (E1 l).bind fun y1=>(Al Q6 0 l y1).bind fun o3=>o3.on fun s3=>(G5 s3 to_).bind fun y9=>some y9
theorem mS (l:List Ar) (to_:List Int) {r:(List Int)} (h:Ua l to_=some r):Dm Tryz.prog 213 [.sl 4 (l.map Bf),.sl 1 (to_.map An)] 1 (r.map An):=by
 refine Dm.of ?_
 refine C0.weak (R:=fun q H=>∃ v0 rest,q= .own 0 v0 0 (r.map An).length∧H= .row v0 1 (r.map An)::rest) (C0.intro Tryz.func213 rfl rfl (by show _≤33;simp) ?_) (fun q H hq=>?_)
 ·unfold Ua at h
  refine nS (sq ?_)
  refine gw7 rfl ?_
  refine rg rfl fun K j=>?_
  obtain⟨y1,bp,h⟩:=Ae h
  refine Ah.row Tryz.call268 (Mw l bp) rfl 0 rfl ?_
  (try simp +decide -implicitDefEqProofs only[go_sem,Aow])
  refine j _ _ (qn (sq (rG rfl fun K j=>?_)))
  intro hm
  refine j (bk ?_)
  obtain⟨o3,bo,ew⟩:=Ae h
  clear h
  refine AWP.Bh bo (0:Nat) (fun zz=>[(1,.sl 1 (to_.map An)),(5,.own 0 zz.2.2 0 zz.2.1.length),(10,.sl 4 (l.map Bf)),(11,.int .i64 ((l.length:Nat):Int)),(12,.int .i64 ((zz.1:Nat):Int))]) (fun zz=>[.row zz.2.2 4 (zz.2.1.map Bf)]) ?_
  rintro k3 turned2 iq jz bo
  dsimp only
  refine Cy rfl ?_
  refine cC rfl ?_ ?_<;>intro hc
  ·obtain⟨cm,b3,da,lr,gn,h,bo⟩:=fcD bo hc
   have gi:=wk (k:=k3) (by omega)
   unfold Q6 at h;try dsimp only at h
   refine gw9 (rG rfl fun K j=>?_)
   refine A1.of (f:=Bf) (l:=l) gn ?_
   refine nS ?_
   refine j (dR Tryz.mixed fun K j=>?_)
   refine nS ?_
   obtain⟨cp,gv,h⟩:=Ae h
   refine Ge gv (by first | rfl | exact(Cq _).symm | (simp only[Aou,List.length_cons,List.length_nil,List.length_set,Aov]<;>omega)) ?_
   refine nS ?_
   refine Dg.ofNat (f:=Bf) (l:=turned2) (n:=k3) gv ?_
   have hs7:=Rx (y:=(Ar.mk cp.ID cm.To cp.To cp.Cost)) gv
   refine nS ?_
   refine Ge hs7 (by first | rfl | exact(Cq _).symm | (simp only[Aou,List.length_cons,List.length_nil,List.length_set,Aov]<;>omega)) ?_
   refine nS ?_
   refine Dg.ofNat (f:=Bf) (l:=(turned2.set k3 (Ar.mk cp.ID cm.To cp.To cp.Cost))) (n:=k3) hs7 ?_
   have hs8:=Rx (y:=(Ar.mk cp.ID cm.To cm.From cp.Cost)) hs7
   refine nS ?_
   refine j _ _ _ (by kernel_rfl) (Eo rfl ?_)
   refine lE da bo h iq ?_ ?_<;>exact cuw gi
  obtain rfl:=fnD bo hc
  have h:=Ao ew;try dsimp only at h
  have af:=leD jz hc
  subst af
  refine gw4 (rG rfl fun K j=>?_)
  obtain⟨y9,fu,h⟩:=Ae h
  refine Ah.Adi Tryz.call266 (X5 turned2 to_ fu) (by simp +decide -implicitDefEqProofs only[go_sem]) (by simp +decide -implicitDefEqProofs only[go_sem]) 1 rfl ?_
  (try simp +decide -implicitDefEqProofs only[go_sem,Aow])
  refine j ?_
  refine AWP.sub (Sub.swap 1 0 rfl rfl rfl) ?_
  refine nS (rt ?_)
  obtain rfl:=Aa h
  refine nSc Tryz.results213 ?_
  refine⟨_,_,?_,rfl⟩
  (try simp +decide -implicitDefEqProofs only[go_sem,Aow,Aou,List.length_cons,List.length_nil,List.length_set,Aov]);try rfl
 obtain⟨v0,rest,rfl,rfl⟩:=hq
 refine⟨[.row v0 1 (r.map An)],?_,?_,?_,⟨v0,rfl,rfl⟩⟩
 all_goals exact cu
def S7 (m:Av) (runs:List Int):Option ((List Int)):=
 (Iw m runs).bind fun y1=>(Nz [y1]).bind fun y2=>(Ua y2 m.Bases).bind fun y3=>some y3
theorem j4 (m:Av) (runs:List Int) {r:(List Int)} (h:S7 m runs=some r):A8 Tryz.prog 111 [.agg (Be m),.sl 1 (runs.map An)] (·= .sl 1 (r.map An)):=by
 refine A8.nle (A8.intro Tryz.func111 rfl rfl (by show _≤13;simp) ?_)
 unfold S7 at h
 refine nS (sq ?_)
 refine gw7 rfl ?_
 refine dR Tryz.mixed fun K j=>?_
 refine nS ?_
 obtain⟨y1,bp,h⟩:=Ae h
 refine Br.pure Tryz.call215 (Us m runs bp) rfl ?_
 refine nS ?_
 obtain⟨y2,cx,h⟩:=Ae h
 refine Br.oT Tryz.call214 (Xv [y1] cx) (by simp +decide -implicitDefEqProofs only[go_sem]) ?_
 refine nS ?_
 obtain⟨y3,bu,h⟩:=Ae h
 refine Br.row Tryz.call213 (mS y2 m.Bases bu) rfl ?_
 (try simp +decide -implicitDefEqProofs only[go_sem,Aow])
 refine j _ _ _ (by kernel_rfl) (Cu ?_)
 cases h;exact en Tryz.results111
theorem lK (m:Av) (runs:List Int) {r:(List Int)} (h:S7 m runs=some r):Ad Tryz.prog 111 [.agg (Be m),.sl 1 (runs.map An)] (·= .sl 1 (r.map An)):=(j4 m runs h).pure
def Ei (f_:Af) (open_:List Int) (run:Int):Option (Bool):=
 (E9 f_.Map run).bind fun y1=>(F3 f_).bind fun y2=>(Te f_.Map y2 open_ run).bind fun y3=>(bif y3 then(S7 f_.Map open_).bind fun y4=>(Bo y4 y1.1.To).bind fun y5=>some y5 else some false)
theorem Gp (f_:Af) (open_:List Int) (run:Int) {r:Bool} (h:Ei f_ open_ run=some r):Ad Tryz.prog 49 [.agg (Ai f_),.sl 1 (open_.map An),.int .i64 run] (·= .bool r):=by
 refine Ad.nle (Ad.intro Tryz.func49 rfl rfl (by show _≤32;simp) ?_)
 unfold Ei at h
 refine nS (sq ?_)
 refine gw7 rfl ?_
 refine rg rfl fun K j=>?_
 obtain⟨y1,bp,h⟩:=Ae h
 refine Ah.pure Tryz.call53 (Eh f_.Map run bp) rfl fun _ hr=>?_
 subst hr
 refine nS ?_
 refine j _ _ (qn (sq (dR Tryz.mixed fun K j=>?_)))
 refine nS ?_
 obtain⟨y2,cx,h⟩:=Ae h
 refine Br.pure Tryz.call110 (Ya f_ cx) rfl ?_
 refine nS ?_
 obtain⟨y3,bu,h⟩:=Ae h
 refine Br.pure Tryz.call109 (j5 f_.Map y2 open_ run bu) rfl ?_
 refine nS ?_
 refine gT h ?_ ?_<;>intro hc h
 ·obtain⟨y4,ch,h⟩:=Ae h
  refine Br.pure Tryz.call111 (lK f_.Map open_ ch) rfl ?_
  refine nS ?_
  obtain⟨y5,cw,h⟩:=Ae h
  refine Br.pure Tryz.call54 (Bt y4 y1.1.To cw) rfl ?_
  refine nS ?_
  refine j _ _ _ (by kernel_rfl) (Cu ?_)
  cases h;exact en Tryz.results49
 refine j _ _ _ (by kernel_rfl) (Cu ?_)
 cases h;exact en Tryz.results49
def C6 (f_:Af) (open_:List Int) (run:Int):Option (Int):=
 (Dh f_ run).bind fun y1=>(bif (decide (y1≠0))then some y1 else(Ei f_ open_ run).bind fun y2=>(bif (!y2)then some 16 else some 0))
theorem D7 (f_:Af) (open_:List Int) (run:Int) {r:Int} (h:C6 f_ open_ run=some r):Ad Tryz.prog 18 [.agg (Ai f_),.sl 1 (open_.map An),.int .i64 run] (·= .int .i64 r):=by
 refine Ad.nle (Ad.intro Tryz.func18 rfl rfl (by show _≤19;simp) ?_)
 unfold C6 at h
 refine nS (sq ?_)
 refine B5 rfl ?_
 refine rg rfl fun K j=>?_
 obtain⟨y1,bp,h⟩:=Ae h
 refine Ah.pure Tryz.call48 (Jz f_ run bp) rfl fun _ hr=>?_
 subst hr
 refine nS ?_
 refine j _ _ (qn (B8 rfl ?_))
 refine cA h rfl ?_ ?_<;>intro hc h
 ·refine gw8 rfl ?_
  cases h;exact en Tryz.results18
 refine gw6 (rG rfl fun K j=>?_)
 obtain⟨y2,cx,h⟩:=Ae h
 refine Ah.pure Tryz.call49 (Gp f_ open_ run cx) rfl fun _ hr=>?_
 subst hr
 refine nS ?_
 refine j (cA h rfl ?_ ?_)<;>intro hc h
 ·refine gw8 rfl ?_
  cases h;exact en Tryz.results18
 refine Co (gw1 rfl ?_)
 cases h;exact en Tryz.results18
def Cb (s_:List Cx):Option (List Cx):=chk s_.length (some s_)
theorem Mu (s_:List Cx) {r:List Cx} (h:Cb s_=some r):Dm Tryz.prog 122 [.sl 2 (s_.map Bq)] 2 (r.map Bq):=by
 have hk:=(Bc h).1
 have hr:r=s_:=Aa (Bc h).2
 rw[hr];clear hr h
 refine Dm.of ?_
 refine C0.weak (R:=fun q H=>∃ v rest,q= .own 0 v 0 (s_.map Bq).length∧H= .row v 2 (s_.map Bq)::rest) (C0.intro Tryz.func122 rfl rfl (by show _≤8;simp) ?_) (fun q H hq=>?_)
 ·refine nS (sq ?_)
  refine B5 rfl ?_
  refine rg rfl fun K j=>?_
  intro bnil hb
  refine nS ?_
  refine j _ _ (qn (cC rfl ?_ ?_))<;>intro hc
  ·have ao:s_=[]:=Classical.byContradiction fun bj=>by have:=hb (by simpa using bj);simp[this]at hc
   subst ao
   refine B8 rfl ?_
   refine AWP.ghost 2 2 rfl (by decide) ?_
   refine nS (rt (qr ?_))
   refine nSc Tryz.results122 ?_
   refine⟨_,_,?_,rfl⟩
   (try simp +decide -implicitDefEqProofs only[go_sem,Aow,Aou,List.length_cons,List.length_nil,List.length_set,Aov]);try rfl
  clear hc
  refine Co (rG rfl fun K j=>?_)
  (repeat refine rp ?_);try simp +decide -implicitDefEqProofs only[go_sem]
  refine j (rt ?_)
  refine nSc Tryz.results122 ?_
  refine⟨_,_,?_,rfl⟩
  (try simp +decide -implicitDefEqProofs only[go_sem,Aow,Aou,List.length_cons,List.length_nil,List.length_set,Aov]);try rfl
 obtain⟨v,rest,rfl,rfl⟩:=hq
 exact⟨[.row v 2 (s_.map Bq)],⟨⟨rfl,rfl,rfl⟩,by cases rest<;>trivial⟩,rfl,rfl,⟨v,rfl,rfl⟩⟩
theorem Lm (s_:List Cx) {r:List Cx} (h:Cb s_=some r):A8 Tryz.prog 122 [.sl 2 (s_.map Bq)] (·= .sl 2 (r.map Bq)):=A8.nle (C0.fresh (C0.mono (Mu s_ h) fun q H=>by rintro⟨rfl,rfl⟩;simp +decide -implicitDefEqProofs only[go_sem,Et,Ac.int.injEq,Int.natCast_zero,List.replicate_zero,List.length_take,List.length_drop,Ac.own.injEq,reduceCtorEq,Int.reduceAdd,Wp,Wq,Sf,Wo,Se,Aow]))
theorem Ec (s_:List Cx) {r:List Cx} (h:Cb s_=some r):Ad Tryz.prog 122 [.sl 2 (s_.map Bq)] (·= .sl 2 (r.map Bq)):=(Lm s_ h).pure
def Cc (s_:List Ck):Option (List Ck):=chk s_.length (some s_)
theorem Mv (s_:List Ck) {r:List Ck} (h:Cc s_=some r):Dm Tryz.prog 123 [.sl 8 (s_.map Bl)] 8 (r.map Bl):=by
 have hk:=(Bc h).1
 have hr:r=s_:=Aa (Bc h).2
 rw[hr];clear hr h
 refine Dm.of ?_
 refine C0.weak (R:=fun q H=>∃ v rest,q= .own 0 v 0 (s_.map Bl).length∧H= .row v 8 (s_.map Bl)::rest) (C0.intro Tryz.func123 rfl rfl (by show _≤8;simp) ?_) (fun q H hq=>?_)
 ·refine nS (sq ?_)
  refine B5 rfl ?_
  refine rg rfl fun K j=>?_
  intro bnil hb
  refine nS ?_
  refine j _ _ (qn (cC rfl ?_ ?_))<;>intro hc
  ·have ao:s_=[]:=Classical.byContradiction fun bj=>by have:=hb (by simpa using bj);simp[this]at hc
   subst ao
   refine B8 rfl ?_
   refine AWP.ghost 2 8 rfl (by decide) ?_
   refine nS (rt (qr ?_))
   refine nSc Tryz.results123 ?_
   refine⟨_,_,?_,rfl⟩
   (try simp +decide -implicitDefEqProofs only[go_sem,Aow,Aou,List.length_cons,List.length_nil,List.length_set,Aov]);try rfl
  clear hc
  refine Co (rG rfl fun K j=>?_)
  (repeat refine rp ?_);try simp +decide -implicitDefEqProofs only[go_sem]
  refine j (rt ?_)
  refine nSc Tryz.results123 ?_
  refine⟨_,_,?_,rfl⟩
  (try simp +decide -implicitDefEqProofs only[go_sem,Aow,Aou,List.length_cons,List.length_nil,List.length_set,Aov]);try rfl
 obtain⟨v,rest,rfl,rfl⟩:=hq
 exact⟨[.row v 8 (s_.map Bl)],⟨⟨rfl,rfl,rfl⟩,by cases rest<;>trivial⟩,rfl,rfl,⟨v,rfl,rfl⟩⟩
theorem Ln (s_:List Ck) {r:List Ck} (h:Cc s_=some r):A8 Tryz.prog 123 [.sl 8 (s_.map Bl)] (·= .sl 8 (r.map Bl)):=A8.nle (C0.fresh (C0.mono (Mv s_ h) fun q H=>by rintro⟨rfl,rfl⟩;simp +decide -implicitDefEqProofs only[go_sem,Et,Ac.int.injEq,Int.natCast_zero,List.replicate_zero,List.length_take,List.length_drop,Ac.own.injEq,reduceCtorEq,Int.reduceAdd,Wp,Wq,Sf,Wo,Se,Aow]))
theorem Ed (s_:List Ck) {r:List Ck} (h:Cc s_=some r):Ad Tryz.prog 123 [.sl 8 (s_.map Bl)] (·= .sl 8 (r.map Bl)):=(Ln s_ h).pure
def Ch (s_:List Cn):Option (List Cn):=chk s_.length (some s_)
theorem Od (s_:List Cn) {r:List Cn} (h:Ch s_=some r):Dm Tryz.prog 124 [.sl 7 (s_.map Bj)] 7 (r.map Bj):=by
 have hk:=(Bc h).1
 have hr:r=s_:=Aa (Bc h).2
 rw[hr];clear hr h
 refine Dm.of ?_
 refine C0.weak (R:=fun q H=>∃ v rest,q= .own 0 v 0 (s_.map Bj).length∧H= .row v 7 (s_.map Bj)::rest) (C0.intro Tryz.func124 rfl rfl (by show _≤8;simp) ?_) (fun q H hq=>?_)
 ·refine nS (sq ?_)
  refine B5 rfl ?_
  refine rg rfl fun K j=>?_
  intro bnil hb
  refine nS ?_
  refine j _ _ (qn (cC rfl ?_ ?_))<;>intro hc
  ·have ao:s_=[]:=Classical.byContradiction fun bj=>by have:=hb (by simpa using bj);simp[this]at hc
   subst ao
   refine B8 rfl ?_
   refine AWP.ghost 2 7 rfl (by decide) ?_
   refine nS (rt (qr ?_))
   refine nSc Tryz.results124 ?_
   refine⟨_,_,?_,rfl⟩
   (try simp +decide -implicitDefEqProofs only[go_sem,Aow,Aou,List.length_cons,List.length_nil,List.length_set,Aov]);try rfl
  clear hc
  refine Co (rG rfl fun K j=>?_)
  (repeat refine rp ?_);try simp +decide -implicitDefEqProofs only[go_sem]
  refine j (rt ?_)
  refine nSc Tryz.results124 ?_
  refine⟨_,_,?_,rfl⟩
  (try simp +decide -implicitDefEqProofs only[go_sem,Aow,Aou,List.length_cons,List.length_nil,List.length_set,Aov]);try rfl
 obtain⟨v,rest,rfl,rfl⟩:=hq
 exact⟨[.row v 7 (s_.map Bj)],⟨⟨rfl,rfl,rfl⟩,by cases rest<;>trivial⟩,rfl,rfl,⟨v,rfl,rfl⟩⟩
theorem Mt (s_:List Cn) {r:List Cn} (h:Ch s_=some r):A8 Tryz.prog 124 [.sl 7 (s_.map Bj)] (·= .sl 7 (r.map Bj)):=A8.nle (C0.fresh (C0.mono (Od s_ h) fun q H=>by rintro⟨rfl,rfl⟩;simp +decide -implicitDefEqProofs only[go_sem,Et,Ac.int.injEq,Int.natCast_zero,List.replicate_zero,List.length_take,List.length_drop,Ac.own.injEq,reduceCtorEq,Int.reduceAdd,Wp,Wq,Sf,Wo,Se,Aow]))
theorem Eg (s_:List Cn) {r:List Cn} (h:Ch s_=some r):Ad Tryz.prog 124 [.sl 7 (s_.map Bj)] (·= .sl 7 (r.map Bj)):=(Mt s_ h).pure
def Bu (s_:List Cv):Option (List Cv):=chk s_.length (some s_)
theorem Ik (s_:List Cv) {r:List Cv} (h:Bu s_=some r):Dm Tryz.prog 125 [.sl 2 (s_.map A4)] 2 (r.map A4):=by
 have hk:=(Bc h).1
 have hr:r=s_:=Aa (Bc h).2
 rw[hr];clear hr h
 refine Dm.of ?_
 refine C0.weak (R:=fun q H=>∃ v rest,q= .own 0 v 0 (s_.map A4).length∧H= .row v 2 (s_.map A4)::rest) (C0.intro Tryz.func125 rfl rfl (by show _≤8;simp) ?_) (fun q H hq=>?_)
 ·refine nS (sq ?_)
  refine B5 rfl ?_
  refine rg rfl fun K j=>?_
  intro bnil hb
  refine nS ?_
  refine j _ _ (qn (cC rfl ?_ ?_))<;>intro hc
  ·have ao:s_=[]:=Classical.byContradiction fun bj=>by have:=hb (by simpa using bj);simp[this]at hc
   subst ao
   refine B8 rfl ?_
   refine AWP.ghost 2 2 rfl (by decide) ?_
   refine nS (rt (qr ?_))
   refine nSc Tryz.results125 ?_
   refine⟨_,_,?_,rfl⟩
   (try simp +decide -implicitDefEqProofs only[go_sem,Aow,Aou,List.length_cons,List.length_nil,List.length_set,Aov]);try rfl
  clear hc
  refine Co (rG rfl fun K j=>?_)
  (repeat refine rp ?_);try simp +decide -implicitDefEqProofs only[go_sem]
  refine j (rt ?_)
  refine nSc Tryz.results125 ?_
  refine⟨_,_,?_,rfl⟩
  (try simp +decide -implicitDefEqProofs only[go_sem,Aow,Aou,List.length_cons,List.length_nil,List.length_set,Aov]);try rfl
 obtain⟨v,rest,rfl,rfl⟩:=hq
 exact⟨[.row v 2 (s_.map A4)],⟨⟨rfl,rfl,rfl⟩,by cases rest<;>trivial⟩,rfl,rfl,⟨v,rfl,rfl⟩⟩
theorem Hp (s_:List Cv) {r:List Cv} (h:Bu s_=some r):A8 Tryz.prog 125 [.sl 2 (s_.map A4)] (·= .sl 2 (r.map A4)):=A8.nle (C0.fresh (C0.mono (Ik s_ h) fun q H=>by rintro⟨rfl,rfl⟩;simp +decide -implicitDefEqProofs only[go_sem,Et,Ac.int.injEq,Int.natCast_zero,List.replicate_zero,List.length_take,List.length_drop,Ac.own.injEq,reduceCtorEq,Int.reduceAdd,Wp,Wq,Sf,Wo,Se,Aow]))
theorem Dl (s_:List Cv) {r:List Cv} (h:Bu s_=some r):Ad Tryz.prog 125 [.sl 2 (s_.map A4)] (·= .sl 2 (r.map A4)):=(Hp s_ h).pure
def B1 (s_:List Bb):Option (List Bb):=chk s_.length (some s_)
theorem Jg (s_:List Bb) {r:List Bb} (h:B1 s_=some r):Dm Tryz.prog 126 [.sl 4 (s_.map Ay)] 4 (r.map Ay):=by
 have hk:=(Bc h).1
 have hr:r=s_:=Aa (Bc h).2
 rw[hr];clear hr h
 refine Dm.of ?_
 refine C0.weak (R:=fun q H=>∃ v rest,q= .own 0 v 0 (s_.map Ay).length∧H= .row v 4 (s_.map Ay)::rest) (C0.intro Tryz.func126 rfl rfl (by show _≤8;simp) ?_) (fun q H hq=>?_)
 ·refine nS (sq ?_)
  refine B5 rfl ?_
  refine rg rfl fun K j=>?_
  intro bnil hb
  refine nS ?_
  refine j _ _ (qn (cC rfl ?_ ?_))<;>intro hc
  ·have ao:s_=[]:=Classical.byContradiction fun bj=>by have:=hb (by simpa using bj);simp[this]at hc
   subst ao
   refine B8 rfl ?_
   refine AWP.ghost 2 4 rfl (by decide) ?_
   refine nS (rt (qr ?_))
   refine nSc Tryz.results126 ?_
   refine⟨_,_,?_,rfl⟩
   (try simp +decide -implicitDefEqProofs only[go_sem,Aow,Aou,List.length_cons,List.length_nil,List.length_set,Aov]);try rfl
  clear hc
  refine Co (rG rfl fun K j=>?_)
  (repeat refine rp ?_);try simp +decide -implicitDefEqProofs only[go_sem]
  refine j (rt ?_)
  refine nSc Tryz.results126 ?_
  refine⟨_,_,?_,rfl⟩
  (try simp +decide -implicitDefEqProofs only[go_sem,Aow,Aou,List.length_cons,List.length_nil,List.length_set,Aov]);try rfl
 obtain⟨v,rest,rfl,rfl⟩:=hq
 exact⟨[.row v 4 (s_.map Ay)],⟨⟨rfl,rfl,rfl⟩,by cases rest<;>trivial⟩,rfl,rfl,⟨v,rfl,rfl⟩⟩
theorem Im (s_:List Bb) {r:List Bb} (h:B1 s_=some r):A8 Tryz.prog 126 [.sl 4 (s_.map Ay)] (·= .sl 4 (r.map Ay)):=A8.nle (C0.fresh (C0.mono (Jg s_ h) fun q H=>by rintro⟨rfl,rfl⟩;simp +decide -implicitDefEqProofs only[go_sem,Et,Ac.int.injEq,Int.natCast_zero,List.replicate_zero,List.length_take,List.length_drop,Ac.own.injEq,reduceCtorEq,Int.reduceAdd,Wp,Wq,Sf,Wo,Se,Aow]))
theorem Du (s_:List Bb) {r:List Bb} (h:B1 s_=some r):Ad Tryz.prog 126 [.sl 4 (s_.map Ay)] (·= .sl 4 (r.map Ay)):=(Im s_ h).pure
def Dj (s_:List Fm):Option (List Fm):=chk s_.length (some s_)
theorem Ms (s_:List Fm) {r:List Fm} (h:Dj s_=some r):Dm Tryz.prog 129 [.sl 3 (s_.map Cw)] 3 (r.map Cw):=by
 have hk:=(Bc h).1
 have hr:r=s_:=Aa (Bc h).2
 rw[hr];clear hr h
 refine Dm.of ?_
 refine C0.weak (R:=fun q H=>∃ v rest,q= .own 0 v 0 (s_.map Cw).length∧H= .row v 3 (s_.map Cw)::rest) (C0.intro Tryz.func129 rfl rfl (by show _≤8;simp) ?_) (fun q H hq=>?_)
 ·refine nS (sq ?_)
  refine B5 rfl ?_
  refine rg rfl fun K j=>?_
  intro bnil hb
  refine nS ?_
  refine j _ _ (qn (cC rfl ?_ ?_))<;>intro hc
  ·have ao:s_=[]:=Classical.byContradiction fun bj=>by have:=hb (by simpa using bj);simp[this]at hc
   subst ao
   refine B8 rfl ?_
   refine AWP.ghost 2 3 rfl (by decide) ?_
   refine nS (rt (qr ?_))
   refine nSc Tryz.results129 ?_
   refine⟨_,_,?_,rfl⟩
   (try simp +decide -implicitDefEqProofs only[go_sem,Aow,Aou,List.length_cons,List.length_nil,List.length_set,Aov]);try rfl
  clear hc
  refine Co (rG rfl fun K j=>?_)
  (repeat refine rp ?_);try simp +decide -implicitDefEqProofs only[go_sem]
  refine j (rt ?_)
  refine nSc Tryz.results129 ?_
  refine⟨_,_,?_,rfl⟩
  (try simp +decide -implicitDefEqProofs only[go_sem,Aow,Aou,List.length_cons,List.length_nil,List.length_set,Aov]);try rfl
 obtain⟨v,rest,rfl,rfl⟩:=hq
 exact⟨[.row v 3 (s_.map Cw)],⟨⟨rfl,rfl,rfl⟩,by cases rest<;>trivial⟩,rfl,rfl,⟨v,rfl,rfl⟩⟩
theorem Ll (s_:List Fm) {r:List Fm} (h:Dj s_=some r):A8 Tryz.prog 129 [.sl 3 (s_.map Cw)] (·= .sl 3 (r.map Cw)):=A8.nle (C0.fresh (C0.mono (Ms s_ h) fun q H=>by rintro⟨rfl,rfl⟩;simp +decide -implicitDefEqProofs only[go_sem,Et,Ac.int.injEq,Int.natCast_zero,List.replicate_zero,List.length_take,List.length_drop,Ac.own.injEq,reduceCtorEq,Int.reduceAdd,Wp,Wq,Sf,Wo,Se,Aow]))
theorem Me (s_:List Fm) {r:List Fm} (h:Dj s_=some r):Ad Tryz.prog 129 [.sl 3 (s_.map Cw)] (·= .sl 3 (r.map Cw)):=(Ll s_ h).pure
def De (l:Cg):Option (Cg):=
 (B9 l.List_.Items).bind fun y1=>(Dj l.List_.Signs).bind fun y2=>some (Cg.mk l.Run (Ba.mk y1 l.List_.Every y2))
theorem Hl (l:Cg) {r:Cg} (h:De l=some r):Ad Tryz.prog 128 [.agg (A3 l)] (·= .agg (A3 r)):=by
 refine Ad.nle (Ad.intro Tryz.func128 rfl rfl (by show _≤16;simp) ?_)
 unfold De at h
 refine nS (sq ?_)
 refine gw7 rfl ?_
 refine rg rfl fun K j=>?_
 obtain⟨y1,bp,h⟩:=Ae h
 refine Ah.pure Tryz.call67 (C4 l.List_.Items bp) rfl fun _ hr=>?_
 subst hr
 refine nS ?_
 refine j _ _ (qn (rG rfl fun K j=>?_))
 obtain⟨y2,cx,h⟩:=Ae h
 refine Ah.pure Tryz.call129 (Me l.List_.Signs cx) rfl fun _ hr=>?_
 subst hr
 refine nS ?_
 refine j (gw1 rfl ?_)
 cases h;exact en Tryz.results128
def B6 (s_:List C5):Option (List C5):=chk s_.length (some s_)
theorem J7 (s_:List C5) {r:List C5} (h:B6 s_=some r):Dm Tryz.prog 130 [.sl 3 (s_.map Bg)] 3 (r.map Bg):=by
 have hk:=(Bc h).1
 have hr:r=s_:=Aa (Bc h).2
 rw[hr];clear hr h
 refine Dm.of ?_
 refine C0.weak (R:=fun q H=>∃ v rest,q= .own 0 v 0 (s_.map Bg).length∧H= .row v 3 (s_.map Bg)::rest) (C0.intro Tryz.func130 rfl rfl (by show _≤8;simp) ?_) (fun q H hq=>?_)
 ·refine nS (sq ?_)
  refine B5 rfl ?_
  refine rg rfl fun K j=>?_
  intro bnil hb
  refine nS ?_
  refine j _ _ (qn (cC rfl ?_ ?_))<;>intro hc
  ·have ao:s_=[]:=Classical.byContradiction fun bj=>by have:=hb (by simpa using bj);simp[this]at hc
   subst ao
   refine B8 rfl ?_
   refine AWP.ghost 2 3 rfl (by decide) ?_
   refine nS (rt (qr ?_))
   refine nSc Tryz.results130 ?_
   refine⟨_,_,?_,rfl⟩
   (try simp +decide -implicitDefEqProofs only[go_sem,Aow,Aou,List.length_cons,List.length_nil,List.length_set,Aov]);try rfl
  clear hc
  refine Co (rG rfl fun K j=>?_)
  (repeat refine rp ?_);try simp +decide -implicitDefEqProofs only[go_sem]
  refine j (rt ?_)
  refine nSc Tryz.results130 ?_
  refine⟨_,_,?_,rfl⟩
  (try simp +decide -implicitDefEqProofs only[go_sem,Aow,Aou,List.length_cons,List.length_nil,List.length_set,Aov]);try rfl
 obtain⟨v,rest,rfl,rfl⟩:=hq
 exact⟨[.row v 3 (s_.map Bg)],⟨⟨rfl,rfl,rfl⟩,by cases rest<;>trivial⟩,rfl,rfl,⟨v,rfl,rfl⟩⟩
theorem Je (s_:List C5) {r:List C5} (h:B6 s_=some r):A8 Tryz.prog 130 [.sl 3 (s_.map Bg)] (·= .sl 3 (r.map Bg)):=A8.nle (C0.fresh (C0.mono (J7 s_ h) fun q H=>by rintro⟨rfl,rfl⟩;simp +decide -implicitDefEqProofs only[go_sem,Et,Ac.int.injEq,Int.natCast_zero,List.replicate_zero,List.length_take,List.length_drop,Ac.own.injEq,reduceCtorEq,Int.reduceAdd,Wp,Wq,Sf,Wo,Se,Aow]))
theorem Dy (s_:List C5) {r:List C5} (h:B6 s_=some r):Ad Tryz.prog 130 [.sl 3 (s_.map Bg)] (·= .sl 3 (r.map Bg)):=(Je s_ h).pure
def Bv (s_:List C7):Option (List C7):=chk s_.length (some s_)
theorem Jb (s_:List C7) {r:List C7} (h:Bv s_=some r):Dm Tryz.prog 131 [.sl 3 (s_.map Bd)] 3 (r.map Bd):=by
 have hk:=(Bc h).1
 have hr:r=s_:=Aa (Bc h).2
 rw[hr];clear hr h
 refine Dm.of ?_
 refine C0.weak (R:=fun q H=>∃ v rest,q= .own 0 v 0 (s_.map Bd).length∧H= .row v 3 (s_.map Bd)::rest) (C0.intro Tryz.func131 rfl rfl (by show _≤8;simp) ?_) (fun q H hq=>?_)
 ·refine nS (sq ?_)
  refine B5 rfl ?_
  refine rg rfl fun K j=>?_
  intro bnil hb
  refine nS ?_
  refine j _ _ (qn (cC rfl ?_ ?_))<;>intro hc
  ·have ao:s_=[]:=Classical.byContradiction fun bj=>by have:=hb (by simpa using bj);simp[this]at hc
   subst ao
   refine B8 rfl ?_
   refine AWP.ghost 2 3 rfl (by decide) ?_
   refine nS (rt (qr ?_))
   refine nSc Tryz.results131 ?_
   refine⟨_,_,?_,rfl⟩
   (try simp +decide -implicitDefEqProofs only[go_sem,Aow,Aou,List.length_cons,List.length_nil,List.length_set,Aov]);try rfl
  clear hc
  refine Co (rG rfl fun K j=>?_)
  (repeat refine rp ?_);try simp +decide -implicitDefEqProofs only[go_sem]
  refine j (rt ?_)
  refine nSc Tryz.results131 ?_
  refine⟨_,_,?_,rfl⟩
  (try simp +decide -implicitDefEqProofs only[go_sem,Aow,Aou,List.length_cons,List.length_nil,List.length_set,Aov]);try rfl
 obtain⟨v,rest,rfl,rfl⟩:=hq
 exact⟨[.row v 3 (s_.map Bd)],⟨⟨rfl,rfl,rfl⟩,by cases rest<;>trivial⟩,rfl,rfl,⟨v,rfl,rfl⟩⟩
theorem Ih (s_:List C7) {r:List C7} (h:Bv s_=some r):A8 Tryz.prog 131 [.sl 3 (s_.map Bd)] (·= .sl 3 (r.map Bd)):=A8.nle (C0.fresh (C0.mono (Jb s_ h) fun q H=>by rintro⟨rfl,rfl⟩;simp +decide -implicitDefEqProofs only[go_sem,Et,Ac.int.injEq,Int.natCast_zero,List.replicate_zero,List.length_take,List.length_drop,Ac.own.injEq,reduceCtorEq,Int.reduceAdd,Wp,Wq,Sf,Wo,Se,Aow]))
theorem Dq (s_:List C7) {r:List C7} (h:Bv s_=some r):Ad Tryz.prog 131 [.sl 3 (s_.map Bd)] (·= .sl 3 (r.map Bd)):=(Ih s_ h).pure
def Bw (s_:List Ct):Option (List Ct):=chk s_.length (some s_)
theorem Jc (s_:List Ct) {r:List Ct} (h:Bw s_=some r):Dm Tryz.prog 132 [.sl 5 (s_.map A6)] 5 (r.map A6):=by
 have hk:=(Bc h).1
 have hr:r=s_:=Aa (Bc h).2
 rw[hr];clear hr h
 refine Dm.of ?_
 refine C0.weak (R:=fun q H=>∃ v rest,q= .own 0 v 0 (s_.map A6).length∧H= .row v 5 (s_.map A6)::rest) (C0.intro Tryz.func132 rfl rfl (by show _≤8;simp) ?_) (fun q H hq=>?_)
 ·refine nS (sq ?_)
  refine B5 rfl ?_
  refine rg rfl fun K j=>?_
  intro bnil hb
  refine nS ?_
  refine j _ _ (qn (cC rfl ?_ ?_))<;>intro hc
  ·have ao:s_=[]:=Classical.byContradiction fun bj=>by have:=hb (by simpa using bj);simp[this]at hc
   subst ao
   refine B8 rfl ?_
   refine AWP.ghost 2 5 rfl (by decide) ?_
   refine nS (rt (qr ?_))
   refine nSc Tryz.results132 ?_
   refine⟨_,_,?_,rfl⟩
   (try simp +decide -implicitDefEqProofs only[go_sem,Aow,Aou,List.length_cons,List.length_nil,List.length_set,Aov]);try rfl
  clear hc
  refine Co (rG rfl fun K j=>?_)
  (repeat refine rp ?_);try simp +decide -implicitDefEqProofs only[go_sem]
  refine j (rt ?_)
  refine nSc Tryz.results132 ?_
  refine⟨_,_,?_,rfl⟩
  (try simp +decide -implicitDefEqProofs only[go_sem,Aow,Aou,List.length_cons,List.length_nil,List.length_set,Aov]);try rfl
 obtain⟨v,rest,rfl,rfl⟩:=hq
 exact⟨[.row v 5 (s_.map A6)],⟨⟨rfl,rfl,rfl⟩,by cases rest<;>trivial⟩,rfl,rfl,⟨v,rfl,rfl⟩⟩
theorem Ii (s_:List Ct) {r:List Ct} (h:Bw s_=some r):A8 Tryz.prog 132 [.sl 5 (s_.map A6)] (·= .sl 5 (r.map A6)):=A8.nle (C0.fresh (C0.mono (Jc s_ h) fun q H=>by rintro⟨rfl,rfl⟩;simp +decide -implicitDefEqProofs only[go_sem,Et,Ac.int.injEq,Int.natCast_zero,List.replicate_zero,List.length_take,List.length_drop,Ac.own.injEq,reduceCtorEq,Int.reduceAdd,Wp,Wq,Sf,Wo,Se,Aow]))
theorem Dr (s_:List Ct) {r:List Ct} (h:Bw s_=some r):Ad Tryz.prog 132 [.sl 5 (s_.map A6)] (·= .sl 5 (r.map A6)):=(Ii s_ h).pure
def Dd (s_:Aw):Option (Aw):=
 (B9 s_.Zones).bind fun y1=>(B9 s_.Lifts).bind fun y2=>some (Aw.mk s_.ID y1 y2 s_.Limit s_.Load s_.Controlled)
theorem Hk (s_:Aw) {r:Aw} (h:Dd s_=some r):Ad Tryz.prog 134 [.agg (Az s_)] (·= .agg (Az r)):=by
 refine Ad.nle (Ad.intro Tryz.func134 rfl rfl (by show _≤12;simp) ?_)
 unfold Dd at h
 refine nS (sq ?_)
 refine gw7 rfl ?_
 refine rg rfl fun K j=>?_
 obtain⟨y1,bp,h⟩:=Ae h
 refine Ah.pure Tryz.call67 (C4 s_.Zones bp) rfl fun _ hr=>?_
 subst hr
 refine nS ?_
 refine j _ _ (qn (rG rfl fun K j=>?_))
 obtain⟨y2,cx,h⟩:=Ae h
 refine Ah.pure Tryz.call67 (C4 s_.Lifts cx) rfl fun _ hr=>?_
 subst hr
 refine nS ?_
 refine j (gw1 rfl ?_)
 cases h;exact en Tryz.results134
def Dc (b:A2):Option (A2):=
 (B9 b.Zones).bind fun y1=>some (A2.mk b.Version b.Span b.Low b.High y1 b.Level)
theorem Hj (b:A2) {r:A2} (h:Dc b=some r):Ad Tryz.prog 136 [.agg (Ap b)] (·= .agg (Ap r)):=by
 refine Ad.nle (Ad.intro Tryz.func136 rfl rfl (by show _≤8;simp) ?_)
 unfold Dc at h
 refine nS (sq ?_)
 refine gw7 rfl ?_
 refine rg rfl fun K j=>?_
 obtain⟨y1,bp,h⟩:=Ae h
 refine Ah.pure Tryz.call67 (C4 b.Zones bp) rfl fun _ hr=>?_
 subst hr
 refine nS ?_
 refine j _ _ (qn (gw1 rfl ?_))
 cases h;exact en Tryz.results136
def Bx (s_:List A5):Option (List A5):=chk s_.length (some s_)
theorem Jd (s_:List A5) {r:List A5} (h:Bx s_=some r):Dm Tryz.prog 137 [.sl 7 (s_.map Aq)] 7 (r.map Aq):=by
 have hk:=(Bc h).1
 have hr:r=s_:=Aa (Bc h).2
 rw[hr];clear hr h
 refine Dm.of ?_
 refine C0.weak (R:=fun q H=>∃ v rest,q= .own 0 v 0 (s_.map Aq).length∧H= .row v 7 (s_.map Aq)::rest) (C0.intro Tryz.func137 rfl rfl (by show _≤8;simp) ?_) (fun q H hq=>?_)
 ·refine nS (sq ?_)
  refine B5 rfl ?_
  refine rg rfl fun K j=>?_
  intro bnil hb
  refine nS ?_
  refine j _ _ (qn (cC rfl ?_ ?_))<;>intro hc
  ·have ao:s_=[]:=Classical.byContradiction fun bj=>by have:=hb (by simpa using bj);simp[this]at hc
   subst ao
   refine B8 rfl ?_
   refine AWP.ghost 2 7 rfl (by decide) ?_
   refine nS (rt (qr ?_))
   refine nSc Tryz.results137 ?_
   refine⟨_,_,?_,rfl⟩
   (try simp +decide -implicitDefEqProofs only[go_sem,Aow,Aou,List.length_cons,List.length_nil,List.length_set,Aov]);try rfl
  clear hc
  refine Co (rG rfl fun K j=>?_)
  (repeat refine rp ?_);try simp +decide -implicitDefEqProofs only[go_sem]
  refine j (rt ?_)
  refine nSc Tryz.results137 ?_
  refine⟨_,_,?_,rfl⟩
  (try simp +decide -implicitDefEqProofs only[go_sem,Aow,Aou,List.length_cons,List.length_nil,List.length_set,Aov]);try rfl
 obtain⟨v,rest,rfl,rfl⟩:=hq
 exact⟨[.row v 7 (s_.map Aq)],⟨⟨rfl,rfl,rfl⟩,by cases rest<;>trivial⟩,rfl,rfl,⟨v,rfl,rfl⟩⟩
theorem Ij (s_:List A5) {r:List A5} (h:Bx s_=some r):A8 Tryz.prog 137 [.sl 7 (s_.map Aq)] (·= .sl 7 (r.map Aq)):=A8.nle (C0.fresh (C0.mono (Jd s_ h) fun q H=>by rintro⟨rfl,rfl⟩;simp +decide -implicitDefEqProofs only[go_sem,Et,Ac.int.injEq,Int.natCast_zero,List.replicate_zero,List.length_take,List.length_drop,Ac.own.injEq,reduceCtorEq,Int.reduceAdd,Wp,Wq,Sf,Wo,Se,Aow]))
theorem Ds (s_:List A5) {r:List A5} (h:Bx s_=some r):Ad Tryz.prog 137 [.sl 7 (s_.map Aq)] (·= .sl 7 (r.map Aq)):=(Ij s_ h).pure
def Db (w:Am):Option (Am):=
 (B9 w.Runs).bind fun y1=>some (Am.mk w.Groomer w.From w.To y1)
theorem Hi (w:Am) {r:Am} (h:Db w=some r):Ad Tryz.prog 139 [.agg (Aj w)] (·= .agg (Aj r)):=by
 refine Ad.nle (Ad.intro Tryz.func139 rfl rfl (by show _≤8;simp) ?_)
 unfold Db at h
 refine nS (sq ?_)
 refine gw7 rfl ?_
 refine rg rfl fun K j=>?_
 obtain⟨y1,bp,h⟩:=Ae h
 refine Ah.pure Tryz.call67 (C4 w.Runs bp) rfl fun _ hr=>?_
 subst hr
 refine nS ?_
 refine j _ _ (qn (gw1 rfl ?_))
 cases h;exact en Tryz.results139
def Bz (s_:List B3):Option (List B3):=chk s_.length (some s_)
theorem Jf (s_:List B3) {r:List B3} (h:Bz s_=some r):Dm Tryz.prog 140 [.sl 8 (s_.map A7)] 8 (r.map A7):=by
 have hk:=(Bc h).1
 have hr:r=s_:=Aa (Bc h).2
 rw[hr];clear hr h
 refine Dm.of ?_
 refine C0.weak (R:=fun q H=>∃ v rest,q= .own 0 v 0 (s_.map A7).length∧H= .row v 8 (s_.map A7)::rest) (C0.intro Tryz.func140 rfl rfl (by show _≤8;simp) ?_) (fun q H hq=>?_)
 ·refine nS (sq ?_)
  refine B5 rfl ?_
  refine rg rfl fun K j=>?_
  intro bnil hb
  refine nS ?_
  refine j _ _ (qn (cC rfl ?_ ?_))<;>intro hc
  ·have ao:s_=[]:=Classical.byContradiction fun bj=>by have:=hb (by simpa using bj);simp[this]at hc
   subst ao
   refine B8 rfl ?_
   refine AWP.ghost 2 8 rfl (by decide) ?_
   refine nS (rt (qr ?_))
   refine nSc Tryz.results140 ?_
   refine⟨_,_,?_,rfl⟩
   (try simp +decide -implicitDefEqProofs only[go_sem,Aow,Aou,List.length_cons,List.length_nil,List.length_set,Aov]);try rfl
  clear hc
  refine Co (rG rfl fun K j=>?_)
  (repeat refine rp ?_);try simp +decide -implicitDefEqProofs only[go_sem]
  refine j (rt ?_)
  refine nSc Tryz.results140 ?_
  refine⟨_,_,?_,rfl⟩
  (try simp +decide -implicitDefEqProofs only[go_sem,Aow,Aou,List.length_cons,List.length_nil,List.length_set,Aov]);try rfl
 obtain⟨v,rest,rfl,rfl⟩:=hq
 exact⟨[.row v 8 (s_.map A7)],⟨⟨rfl,rfl,rfl⟩,by cases rest<;>trivial⟩,rfl,rfl,⟨v,rfl,rfl⟩⟩
theorem Il (s_:List B3) {r:List B3} (h:Bz s_=some r):A8 Tryz.prog 140 [.sl 8 (s_.map A7)] (·= .sl 8 (r.map A7)):=A8.nle (C0.fresh (C0.mono (Jf s_ h) fun q H=>by rintro⟨rfl,rfl⟩;simp +decide -implicitDefEqProofs only[go_sem,Et,Ac.int.injEq,Int.natCast_zero,List.replicate_zero,List.length_take,List.length_drop,Ac.own.injEq,reduceCtorEq,Int.reduceAdd,Wp,Wq,Sf,Wo,Se,Aow]))
theorem Dt (s_:List B3) {r:List B3} (h:Bz s_=some r):Ad Tryz.prog 140 [.sl 8 (s_.map A7)] (·= .sl 8 (r.map A7)):=(Il s_ h).pure
def Cl (s_:List Au):Option (List Au):=chk s_.length (some s_)
theorem D4 (s_:List Au) {r:List Au} (h:Cl s_=some r):Dm Tryz.prog 141 [.sl 3 (s_.map Ax)] 3 (r.map Ax):=by
 have hk:=(Bc h).1
 have hr:r=s_:=Aa (Bc h).2
 rw[hr];clear hr h
 refine Dm.of ?_
 refine C0.weak (R:=fun q H=>∃ v rest,q= .own 0 v 0 (s_.map Ax).length∧H= .row v 3 (s_.map Ax)::rest) (C0.intro Tryz.func141 rfl rfl (by show _≤8;simp) ?_) (fun q H hq=>?_)
 ·refine nS (sq ?_)
  refine B5 rfl ?_
  refine rg rfl fun K j=>?_
  intro bnil hb
  refine nS ?_
  refine j _ _ (qn (cC rfl ?_ ?_))<;>intro hc
  ·have ao:s_=[]:=Classical.byContradiction fun bj=>by have:=hb (by simpa using bj);simp[this]at hc
   subst ao
   refine B8 rfl ?_
   refine AWP.ghost 2 3 rfl (by decide) ?_
   refine nS (rt (qr ?_))
   refine nSc Tryz.results141 ?_
   refine⟨_,_,?_,rfl⟩
   (try simp +decide -implicitDefEqProofs only[go_sem,Aow,Aou,List.length_cons,List.length_nil,List.length_set,Aov]);try rfl
  clear hc
  refine Co (rG rfl fun K j=>?_)
  (repeat refine rp ?_);try simp +decide -implicitDefEqProofs only[go_sem]
  refine j (rt ?_)
  refine nSc Tryz.results141 ?_
  refine⟨_,_,?_,rfl⟩
  (try simp +decide -implicitDefEqProofs only[go_sem,Aow,Aou,List.length_cons,List.length_nil,List.length_set,Aov]);try rfl
 obtain⟨v,rest,rfl,rfl⟩:=hq
 exact⟨[.row v 3 (s_.map Ax)],⟨⟨rfl,rfl,rfl⟩,by cases rest<;>trivial⟩,rfl,rfl,⟨v,rfl,rfl⟩⟩
def Pn (f_:Af) (run:Int) (y8:(List Cx)) (y9:(List Ck)) (cr:(List Cn)) (dz:(List Int)) (ee:(List Cv)) (gd:(List Bb)) (dj:List Cg) (mn:(List C5)) (ml:(List C7)) (ks:(List Ct)) (dw:List Aw) (gm:List A2) (ns:(List A5)) (jd:List Am) (sr:(List B3)) (gh:(List Au)) (sv:Int):Option (Out (Int) (Af×Int)):=
 (bif (decide (sv<((gh.length:Nat):Int)))then (Da gh sv).bind fun ze=>(bif (decide (ze.Run<run))then some (Out.next (IntKind.i64.wrap (sv+1)))else ((bif (decide (sv=((gh.length:Nat):Int)))then okB (decide (0≤sv∧sv≤((gh.length:Nat):Int))) ((bif (decide (sv=((gh.length:Nat):Int)))then chk (gh.length+1) (some ((Af.mk (Av.mk y8 y9 cr dz) ee gd (Bk.mk dj mn) ml ks dw gm ns jd sr (gh++[(Au.mk run true f_.Time)]) f_.Depth f_.Time),0))else none))else okB (decide (0≤sv∧sv<((gh.length:Nat):Int))) (chk (gh.length+1) (some ((Af.mk (Av.mk y8 y9 cr dz) ee gd (Bk.mk dj mn) ml ks dw gm ns jd sr (iC gh sv.toNat (Au.mk run true f_.Time)) f_.Depth f_.Time),0))))).bind fun q44=>some (Out.ret q44))else (bif false then some (Out.next (IntKind.i64.wrap (sv+1)))else ((bif (decide (sv=((gh.length:Nat):Int)))then okB (decide (0≤sv∧sv≤((gh.length:Nat):Int))) ((bif (decide (sv=((gh.length:Nat):Int)))then chk (gh.length+1) (some ((Af.mk (Av.mk y8 y9 cr dz) ee gd (Bk.mk dj mn) ml ks dw gm ns jd sr (gh++[(Au.mk run true f_.Time)]) f_.Depth f_.Time),0))else none))else okB (decide (0≤sv∧sv<((gh.length:Nat):Int))) (chk (gh.length+1) (some ((Af.mk (Av.mk y8 y9 cr dz) ee gd (Bk.mk dj mn) ml ks dw gm ns jd sr (iC gh sv.toNat (Au.mk run true f_.Time)) f_.Depth f_.Time),0))))).bind fun q45=>some (Out.ret q45)))
def Po (k34:Nat) (vx:Am) (sv:(List Am)):Option (Out ((List Am)) (Af×Int)):=
 (Db vx).bind fun y37=>chk (sv.length+1) (some (Out.next (sv++[y37])))
def Pp (k28:Nat) (vz:A2) (sv:(List A2)):Option (Out ((List A2)) (Af×Int)):=
 (Dc vz).bind fun y31=>chk (sv.length+1) (some (Out.next (sv++[y31])))
def Pq (zg:Nat) (ka:Aw) (sv:(List Aw)):Option (Out ((List Aw)) (Af×Int)):=
 (Dd ka).bind fun za=>chk (sv.length+1) (some (Out.next (sv++[za])))
def Pr (k15:Nat) (ke:Cg) (sv:(List Cg)):Option (Out ((List Cg)) (Af×Int)):=
 (De ke).bind fun zb=>chk (sv.length+1) (some (Out.next (sv++[zb])))
def Fi (f_:Af) (run:Int) (y2:(List Int)) (k3:Nat):Option (Af×Int):=
 chk (y2.length+1) ((C6 f_ (y2++[run]) run).bind fun y7=>(bif (decide (y7≠0))then some ((Af.mk (Av.mk [] [] [] []) [] [] (Bk.mk [] []) [] [] [] [] [] [] [] [] 0 0),y7)else (Cb f_.Map.Nodes).bind fun y8=>(Cc f_.Map.Lifts).bind fun y9=>(Ch f_.Map.Runs).bind fun cr=>(B9 f_.Map.Bases).bind fun dz=>(Bu f_.Lifts).bind fun ee=>(B1 f_.Closures).bind fun gd=>chk f_.Patrol.Ci.length ((Al Pr 0 f_.Patrol.Ci []).bind fun o15=>o15.on fun s15=>(B6 f_.Patrol.Hazards).bind fun mn=>(Bv f_.Surfaces).bind fun ml=>(Bw f_.Packs).bind fun ks=>chk f_.Slides.length ((Al Pq 0 f_.Slides []).bind fun o23=>o23.on fun s23=>chk f_.Bulletin.length ((Al Pp 0 f_.Bulletin []).bind fun o28=>o28.on fun s28=>(Bx f_.Missions).bind fun ns=>chk f_.Winches.length ((Al Po 0 f_.Winches []).bind fun o34=>o34.on fun s34=>(Bz f_.Groomers).bind fun sr=>(Cl f_.Status).bind fun gh=>(bif (decide (0≤((k3:Nat):Int)))then (Da gh ((k3:Nat):Int)).bind fun vw=>some ((Af.mk (Av.mk y8 y9 cr dz) ee gd (Bk.mk s15 mn) ml ks s23 s28 ns s34 sr (gh.set k3 (Au.mk run true f_.Time)) f_.Depth f_.Time),0)else (Dx (Pn f_ run y8 y9 cr dz ee gd s15 mn ml ks s23 s28 ns s34 sr gh) fuel 0).bind fun o42=>o42.on fun _=>none)))))))
def E3 (f_:Af) (run:Int) (oq:(List Cx)) (oo:(List Ck)) (om:(List Cn)) (oh:(List Int)) (og:(List Cv)) (oe:(List Bb)) (eo:List Cg) (px:(List C5)) (pw:(List C7)) (pt:(List Ct)) (fj:List Aw) (gl:List A2) (sn:(List A5)) (jc:List Am) (tg:(List B3)) (ik:(List Au)) (sv:Int):Option (Out (Int) (Af×Int)):=
 (bif (decide (sv<((ik.length:Nat):Int)))then (Da ik sv).bind fun zd=>(bif (decide (zd.Run<run))then some (Out.next (IntKind.i64.wrap (sv+1)))else ((bif (decide (sv=((ik.length:Nat):Int)))then okB (decide (0≤sv∧sv≤((ik.length:Nat):Int))) ((bif (decide (sv=((ik.length:Nat):Int)))then chk (ik.length+1) (some ((Af.mk (Av.mk oq oo om oh) og oe (Bk.mk eo px) pw pt fj gl sn jc tg (ik++[(Au.mk run true f_.Time)]) f_.Depth f_.Time),0))else none))else okB (decide (0≤sv∧sv<((ik.length:Nat):Int))) (chk (ik.length+1) (some ((Af.mk (Av.mk oq oo om oh) og oe (Bk.mk eo px) pw pt fj gl sn jc tg (iC ik sv.toNat (Au.mk run true f_.Time)) f_.Depth f_.Time),0))))).bind fun q83=>some (Out.ret q83))else (bif false then some (Out.next (IntKind.i64.wrap (sv+1)))else ((bif (decide (sv=((ik.length:Nat):Int)))then okB (decide (0≤sv∧sv≤((ik.length:Nat):Int))) ((bif (decide (sv=((ik.length:Nat):Int)))then chk (ik.length+1) (some ((Af.mk (Av.mk oq oo om oh) og oe (Bk.mk eo px) pw pt fj gl sn jc tg (ik++[(Au.mk run true f_.Time)]) f_.Depth f_.Time),0))else none))else okB (decide (0≤sv∧sv<((ik.length:Nat):Int))) (chk (ik.length+1) (some ((Af.mk (Av.mk oq oo om oh) og oe (Bk.mk eo px) pw pt fj gl sn jc tg (iC ik sv.toNat (Au.mk run true f_.Time)) f_.Depth f_.Time),0))))).bind fun q84=>some (Out.ret q84)))
def Nt (k75:Nat) (vr:Am) (sv:(List Am)):Option (Out ((List Am)) (Af×Int)):=
 (Db vr).bind fun y78=>chk (sv.length+1) (some (Out.next (sv++[y78])))
def Nu (k69:Nat) (vt:A2) (sv:(List A2)):Option (Out ((List A2)) (Af×Int)):=
 (Dc vt).bind fun y72=>chk (sv.length+1) (some (Out.next (sv++[y72])))
def Pl (k64:Nat) (vu:Aw) (sv:(List Aw)):Option (Out ((List Aw)) (Af×Int)):=
 (Dd vu).bind fun y67=>chk (sv.length+1) (some (Out.next (sv++[y67])))
def Pm (k56:Nat) (vv:Cg) (sv:(List Cg)):Option (Out ((List Cg)) (Af×Int)):=
 (De vv).bind fun y59=>chk (sv.length+1) (some (Out.next (sv++[y59])))
def J2 (f_:Af) (run:Int) (y2:(List Int)) (k3:Nat) (cm:Au) (sv:Unit):Option (Out (Unit) (Af×Int)):=
 (bif (decide (cm.Run=run))then ((bif (decide (((k3:Nat):Int)<0))then (bif (decide (64≤((f_.Status.length:Nat):Int)))then some ((Af.mk (Av.mk [] [] [] []) [] [] (Bk.mk [] []) [] [] [] [] [] [] [] [] 0 0),9)else Fi f_ run y2 k3)else Fi f_ run y2 k3)).bind fun q46=>some (Out.ret q46)else some (Out.next ()))
def Eu (f_:Af) (run:Int):Option (Af×Int):=
 (E9 f_.Map run).bind fun y1=>(bif (!y1.2)then some ((Af.mk (Av.mk [] [] [] []) [] [] (Bk.mk [] []) [] [] [] [] [] [] [] [] 0 0),8)else (D9 f_).bind fun y2=>(Bo y2 run).bind fun y3=>(bif y3 then some ((Af.mk (Av.mk [] [] [] []) [] [] (Bk.mk [] []) [] [] [] [] [] [] [] [] 0 0),7)else (Al (J2 f_ run y2) 0 f_.Status ()).bind fun o3=>o3.on fun s3=>(bif (decide (64≤((f_.Status.length:Nat):Int)))then some ((Af.mk (Av.mk [] [] [] []) [] [] (Bk.mk [] []) [] [] [] [] [] [] [] [] 0 0),9)else chk (y2.length+1) ((C6 f_ (y2++[run]) run).bind fun y48=>(bif (decide (y48≠0))then some ((Af.mk (Av.mk [] [] [] []) [] [] (Bk.mk [] []) [] [] [] [] [] [] [] [] 0 0),y48)else (Cb f_.Map.Nodes).bind fun oq=>(Cc f_.Map.Lifts).bind fun oo=>(Ch f_.Map.Runs).bind fun om=>(B9 f_.Map.Bases).bind fun oh=>(Bu f_.Lifts).bind fun og=>(B1 f_.Closures).bind fun oe=>chk f_.Patrol.Ci.length ((Al Pm 0 f_.Patrol.Ci []).bind fun o56=>o56.on fun s56=>(B6 f_.Patrol.Hazards).bind fun px=>(Bv f_.Surfaces).bind fun pw=>(Bw f_.Packs).bind fun pt=>chk f_.Slides.length ((Al Pl 0 f_.Slides []).bind fun o64=>o64.on fun s64=>chk f_.Bulletin.length ((Al Nu 0 f_.Bulletin []).bind fun o69=>o69.on fun s69=>(Bx f_.Missions).bind fun sn=>chk f_.Winches.length ((Al Nt 0 f_.Winches []).bind fun o75=>o75.on fun s75=>(Bz f_.Groomers).bind fun tg=>(Cl f_.Status).bind fun ik=>(Dx (E3 f_ run oq oo om oh og oe s56 px pw pt s64 s69 sn s75 tg ik) fuel 0).bind fun o81=>o81.on fun _=>none)))))))))
theorem Mm (f_:Af) (run:Int) {r:Af×Int} (h:Eu f_ run=some r):Ad Tryz.prog 24 [.agg (Ai f_),.int .i64 run] (·= .tuple [.agg (Ai r.1),.int .i64 r.2]):=by
 refine Ad.nle (Ad.intro Tryz.func24 rfl rfl (by show _≤93;simp) ?_)
 unfold Eu at h
 refine nS (sq ?_)
 refine B5 rfl ?_
 refine rg rfl fun K j=>?_
 obtain⟨y1,bp,h⟩:=Ae h
 refine Ah.pure Tryz.call53 (Eh f_.Map run bp) rfl fun _ hr=>?_
 subst hr
 refine nS ?_
 refine j _ _ (qn (B8 rfl ?_))
 refine cA h rfl ?_ ?_<;>intro hc h
 ·refine gw8 rfl ?_
  cases h;exact en Tryz.results24
 refine Co (rG rfl fun K j=>?_)
 obtain⟨y2,cx,h⟩:=Ae h
 refine Ah.row Tryz.call20 (eK f_ cx) rfl 4 rfl ?_
 (try simp +decide -implicitDefEqProofs only[go_sem,Aow])
 refine j (sq (rG rfl fun K j=>?_))
 obtain⟨y3,bu,h⟩:=Ae h
 refine Ah.snap Tryz.call54 (Bt y2 run bu) (by simp +decide -implicitDefEqProofs only[go_sem]) (by rintro _ rfl;rfl) fun _ hr=>?_
 subst hr
 refine nS ?_
 refine j (cA h rfl ?_ ?_)<;>intro hc h
 ·refine gw8 rfl ?_
  cases h;exact en Tryz.results24
 refine Co (rG rfl fun K j=>?_)
 refine Ah.inline Tryz.call55 Tryz.func55 rfl rfl (by show _≤19;simp) ?_
 refine nS (sq ?_)
 refine B5 rfl ?_
 refine rg rfl fun K j=>?_
 intro hm
 refine j _ _ (qn (bk ?_));clear j K
 obtain⟨o3,bo,ew⟩:=Ae h
 clear h
 refine AWP.Bh bo () (fun zz=>[(0,.sl 3 (f_.Status.map Ax)),(1,.func 56 [.ptr 1 0]),(7,.int .i64 ((f_.Status.length:Nat):Int)),(8,.int .i64 ((zz.1:Nat):Int))]) (fun zz=>[.box (Ai f_),.box [.int .i64 run],.box [.nils,.nils,.nils,.nils,.nils,.nils,.nils,.nils,.nils,.nils,.nils,.nils,.nils,.nils,.nils,.nils,.int .i64 0,.int .i64 0],.box (Bj y1.1),.row 0 1 (y2.map An)]) ?_
 rintro k3 ⟨⟩ ⟨⟩ jz bo
 dsimp only
 refine Cy rfl ?_
 refine cD rfl ?_ ?_<;>intro hc
 ·obtain rfl:=fnD bo hc
  have h:=Ao ew;try dsimp only at h
  have af:=leD jz hc
  subst af
  refine Cr rfl ?_
  refine nSc Tryz.results55 ?_
  refine j (sq (rG rfl fun K j=>?_))
  intro hm
  refine j (cA h rfl ?_ ?_)<;>intro hc h
  ·refine gw8 rfl ?_
   cases h;exact en Tryz.results24
  refine gw6 (sq (dR Tryz.mixed fun K j=>?_))
  refine nS ?_
  obtain⟨hk,h⟩:=Bc h
  (repeat refine rp ?_);try simp +decide -implicitDefEqProofs only[go_sem]
  obtain⟨y48,hy48,h⟩:=Ae h
  refine Br.snap Tryz.call18 (D7 f_ (y2++[run]) run hy48) (by simp +decide -implicitDefEqProofs only[go_sem]) rfl ?_
  refine nS ?_
  refine j _ _ _ (by kernel_rfl) (qn (B8 rfl ?_))
  refine cA h rfl ?_ ?_<;>intro hc h
  ·refine gw8 rfl ?_
   cases h;exact en Tryz.results24
  refine Co (rG rfl fun K j=>?_)
  refine Ah.inline Tryz.call57 Tryz.func57 rfl rfl (by show _≤74;simp) ?_
  refine nS (sq ?_)
  refine gw7 rfl ?_
  refine dR Tryz.mixed fun K j=>?_
  refine nS ?_
  obtain⟨oq,hy49,h⟩:=Ae h
  refine Br.pure Tryz.call122 (Ec f_.Map.Nodes hy49) rfl ?_
  refine nS ?_
  obtain⟨oo,hy50,h⟩:=Ae h
  refine Br.pure Tryz.call123 (Ed f_.Map.Lifts hy50) rfl ?_
  refine nS ?_
  obtain⟨om,hy51,h⟩:=Ae h
  refine Br.pure Tryz.call124 (Eg f_.Map.Runs hy51) rfl ?_
  refine nS ?_
  obtain⟨oh,hy52,h⟩:=Ae h
  refine Br.pure Tryz.call67 (C4 f_.Map.Bases hy52) rfl ?_
  refine nS ?_
  refine j _ _ _ (by kernel_rfl) ?_;clear j K
  refine qn (sq (rg rfl fun K j=>?_))
  obtain⟨og,hy53,h⟩:=Ae h
  refine Ah.pure Tryz.call125 (Dl f_.Lifts hy53) rfl fun _ hr=>?_
  subst hr
  refine nS ?_
  refine j _ _ (qn (sq ?_));clear j K
  refine rg rfl fun K j=>?_
  obtain⟨oe,hy54,h⟩:=Ae h
  refine Ah.pure Tryz.call126 (Du f_.Closures hy54) rfl fun _ hr=>?_
  subst hr
  refine nS ?_
  refine j _ _ (qn (sq ?_));clear j K
  refine rg rfl fun K j=>?_
  refine Ah.inline Tryz.call127 Tryz.func127 rfl rfl (by show _≤25;simp) ?_
  refine nS (sq ?_)
  refine gw7 rfl ?_
  refine rg rfl fun K j=>?_
  intro hm
  obtain⟨hk,h⟩:=Bc h
  (repeat refine rp ?_);try simp +decide -implicitDefEqProofs only[go_sem]
  refine j _ _ (qn (sq (sq ?_)));clear j K
  refine rg rfl fun K j=>?_
  intro hm
  refine j _ _ (qn (bk ?_));clear j K
  obtain⟨o56,pf,hO56⟩:=Ae h
  clear h
  refine AWP.Bh pf (0:Nat) (fun zz=>[(1,.func 128 []),(5,.own 14 zz.2.2 0 zz.2.1.length),(11,.sl 4 (f_.Patrol.Ci.map A3)),(12,.int .i64 ((f_.Patrol.Ci.length:Nat):Int)),(13,.int .i64 ((zz.1:Nat):Int))]) (fun zz=>[.box (Ai f_),.box [.int .i64 run],.box [.nils,.nils,.nils,.nils,.nils,.nils,.nils,.nils,.nils,.nils,.nils,.nils,.nils,.nils,.nils,.nils,.int .i64 0,.int .i64 0],.box (Bj y1.1),.row 1 1 ((y2++[run]).map An),.row 0 1 ([run].map An),.gone,.gone,.box [.sl 2 (oq.map Bq),.sl 8 (oo.map Bl),.sl 7 (om.map Bj),.sl 1 (oh.map An),.sl 2 (og.map A4),.sl 4 (oe.map Ay),.sl 4 (f_.Patrol.Ci.map A3),.sl 3 (f_.Patrol.Hazards.map Bg),.sl 3 (f_.Surfaces.map Bd),.sl 5 (f_.Packs.map A6),.sl 6 (f_.Slides.map Az),.sl 7 (f_.Bulletin.map Ap),.sl 7 (f_.Missions.map Aq),.sl 4 (f_.Winches.map Aj),.sl 8 (f_.Groomers.map A7),.sl 3 (f_.Status.map Ax),.int .i64 f_.Depth,.int .i64 f_.Time],.box [.nils,.nils,.nils,.nils,.nils,.nils,.nils,.nils,.nils,.nils,.nils,.nils,.nils,.nils,.nils,.nils,.int .i64 0,.int .i64 0],.gone,.gone,.gone,.gone,.row zz.2.2 4 (zz.2.1.map A3)]) ?_
  rintro k56 eo gy hk56 pf
  dsimp only
  refine Cy rfl ?_
  refine cC rfl ?_ ?_<;>intro hc
  ·obtain⟨vv,b56,hlt56,hx56_,hx56,h,pf⟩:=fcD pf hc
   have hw56:=wk (k:=k56) (by omega)
   unfold Pm at h;try dsimp only at h
   refine gw9 (sq (rg rfl fun K j=>?_))
   refine A1.of (f:=A3) (l:=f_.Patrol.Ci) hx56 ?_
   refine nS ?_
   refine j _ _ (qn ?_);clear j K
   refine rg rfl fun K j=>?_
   obtain⟨y59,hy59,h⟩:=Ae h
   refine Ah.pure Tryz.call128 (Hl vv hy59) rfl fun _ hr=>?_
   subst hr
   refine nS ?_
   obtain⟨hk,h⟩:=Bc h
   (repeat refine rp ?_);try simp +decide -implicitDefEqProofs only[go_sem]
   refine j _ _ (bn (qn ?_));clear j K
   refine gw3 rfl ?_
   refine lE hlt56 pf h (gy+1) ?_ ?_<;>exact cuw hw56
  obtain rfl:=fnD pf hc
  have h:=Ao hO56;try dsimp only at h
  have af:=leD hk56 hc
  subst af
  refine Cr rfl ?_
  refine nSc Tryz.results127 ?_
  refine j _ _ (qn (sq ?_));clear j K
  refine rg rfl fun K j=>?_
  obtain⟨px,hy60,h⟩:=Ae h
  refine Ah.pure Tryz.call130 (Dy f_.Patrol.Hazards hy60) rfl fun _ hr=>?_
  subst hr
  refine nS ?_
  refine j _ _ (qn (sq ?_));clear j K
  refine rg rfl fun K j=>?_
  obtain⟨pw,hy61,h⟩:=Ae h
  refine Ah.pure Tryz.call131 (Dq f_.Surfaces hy61) rfl fun _ hr=>?_
  subst hr
  refine nS ?_
  refine j _ _ (qn (sq ?_));clear j K
  refine rg rfl fun K j=>?_
  obtain⟨pt,hy62,h⟩:=Ae h
  refine Ah.pure Tryz.call132 (Dr f_.Packs hy62) rfl fun _ hr=>?_
  subst hr
  refine nS ?_
  refine j _ _ (qn (sq ?_));clear j K
  refine rg rfl fun K j=>?_
  refine Ah.inline Tryz.call133 Tryz.func133 rfl rfl (by show _≤25;simp) ?_
  refine nS (sq ?_)
  refine gw7 rfl ?_
  refine rg rfl fun K j=>?_
  intro hm
  obtain⟨hk,h⟩:=Bc h
  (repeat refine rp ?_);try simp +decide -implicitDefEqProofs only[go_sem]
  refine j _ _ (qn (sq (sq ?_)));clear j K
  refine rg rfl fun K j=>?_
  intro hm
  refine j _ _ (qn (bk ?_));clear j K
  obtain⟨o64,pe,hO64⟩:=Ae h
  clear h
  refine AWP.Bh pe (0:Nat) (fun zz=>[(1,.func 134 []),(5,.own 15 zz.2.2 0 zz.2.1.length),(11,.sl 6 (f_.Slides.map Az)),(12,.int .i64 ((f_.Slides.length:Nat):Int)),(13,.int .i64 ((zz.1:Nat):Int))]) (fun zz=>[.box (Ai f_),.box [.int .i64 run],.box [.nils,.nils,.nils,.nils,.nils,.nils,.nils,.nils,.nils,.nils,.nils,.nils,.nils,.nils,.nils,.nils,.int .i64 0,.int .i64 0],.box (Bj y1.1),.row 1 1 ((y2++[run]).map An),.row 0 1 ([run].map An),.gone,.gone,.box [.sl 2 (oq.map Bq),.sl 8 (oo.map Bl),.sl 7 (om.map Bj),.sl 1 (oh.map An),.sl 2 (og.map A4),.sl 4 (oe.map Ay),.own 14 gy 0 eo.length,.sl 3 (px.map Bg),.sl 3 (pw.map Bd),.sl 5 (pt.map A6),.sl 6 (f_.Slides.map Az),.sl 7 (f_.Bulletin.map Ap),.sl 7 (f_.Missions.map Aq),.sl 4 (f_.Winches.map Aj),.sl 8 (f_.Groomers.map A7),.sl 3 (f_.Status.map Ax),.int .i64 f_.Depth,.int .i64 f_.Time],.box [.nils,.nils,.nils,.nils,.nils,.nils,.nils,.nils,.nils,.nils,.nils,.nils,.nils,.nils,.nils,.nils,.int .i64 0,.int .i64 0],.gone,.gone,.gone,.gone,.row gy 4 (eo.map A3),.row zz.2.2 6 (zz.2.1.map Az)]) ?_
  rintro k64 fj jm hk64 pe
  dsimp only
  refine Cy rfl ?_
  refine cC rfl ?_ ?_<;>intro hc
  ·obtain⟨vu,b64,hlt64,hx64_,hx64,h,pe⟩:=fcD pe hc
   have hw64:=wk (k:=k64) (by omega)
   unfold Pl at h;try dsimp only at h
   refine gw9 (sq (rg rfl fun K j=>?_))
   refine A1.of (f:=Az) (l:=f_.Slides) hx64 ?_
   refine nS ?_
   refine j _ _ (qn ?_);clear j K
   refine rg rfl fun K j=>?_
   obtain⟨y67,hy67,h⟩:=Ae h
   refine Ah.pure Tryz.call134 (Hk vu hy67) rfl fun _ hr=>?_
   subst hr
   refine nS ?_
   obtain⟨hk,h⟩:=Bc h
   (repeat refine rp ?_);try simp +decide -implicitDefEqProofs only[go_sem]
   refine j _ _ (bn (qn ?_));clear j K
   refine gw3 rfl ?_
   refine lE hlt64 pe h (jm+1) ?_ ?_<;>exact cuw hw64
  obtain rfl:=fnD pe hc
  have h:=Ao hO64;try dsimp only at h
  have af:=leD hk64 hc
  subst af
  refine Cr rfl ?_
  refine nSc Tryz.results133 ?_
  refine j _ _ (qn (sq ?_));clear j K
  refine rg rfl fun K j=>?_
  refine Ah.inline Tryz.call135 Tryz.func135 rfl rfl (by show _≤25;simp) ?_
  refine nS (sq ?_)
  refine gw7 rfl ?_
  refine rg rfl fun K j=>?_
  intro hm
  obtain⟨hk,h⟩:=Bc h
  (repeat refine rp ?_);try simp +decide -implicitDefEqProofs only[go_sem]
  refine j _ _ (qn (sq (sq ?_)));clear j K
  refine rg rfl fun K j=>?_
  intro hm
  refine j _ _ (qn (bk ?_));clear j K
  obtain⟨o69,pd,hO69⟩:=Ae h
  clear h
  refine AWP.Bh pd (0:Nat) (fun zz=>[(1,.func 136 []),(5,.own 16 zz.2.2 0 zz.2.1.length),(11,.sl 7 (f_.Bulletin.map Ap)),(12,.int .i64 ((f_.Bulletin.length:Nat):Int)),(13,.int .i64 ((zz.1:Nat):Int))]) (fun zz=>[.box (Ai f_),.box [.int .i64 run],.box [.nils,.nils,.nils,.nils,.nils,.nils,.nils,.nils,.nils,.nils,.nils,.nils,.nils,.nils,.nils,.nils,.int .i64 0,.int .i64 0],.box (Bj y1.1),.row 1 1 ((y2++[run]).map An),.row 0 1 ([run].map An),.gone,.gone,.box [.sl 2 (oq.map Bq),.sl 8 (oo.map Bl),.sl 7 (om.map Bj),.sl 1 (oh.map An),.sl 2 (og.map A4),.sl 4 (oe.map Ay),.own 14 gy 0 eo.length,.sl 3 (px.map Bg),.sl 3 (pw.map Bd),.sl 5 (pt.map A6),.own 15 jm 0 fj.length,.sl 7 (f_.Bulletin.map Ap),.sl 7 (f_.Missions.map Aq),.sl 4 (f_.Winches.map Aj),.sl 8 (f_.Groomers.map A7),.sl 3 (f_.Status.map Ax),.int .i64 f_.Depth,.int .i64 f_.Time],.box [.nils,.nils,.nils,.nils,.nils,.nils,.nils,.nils,.nils,.nils,.nils,.nils,.nils,.nils,.nils,.nils,.int .i64 0,.int .i64 0],.gone,.gone,.gone,.gone,.row gy 4 (eo.map A3),.row jm 6 (fj.map Az),.row zz.2.2 7 (zz.2.1.map Ap)]) ?_
  rintro k69 gl lk hk69 pd
  dsimp only
  refine Cy rfl ?_
  refine cC rfl ?_ ?_<;>intro hc
  ·obtain⟨vt,b69,hlt69,hx69_,hx69,h,pd⟩:=fcD pd hc
   have hw69:=wk (k:=k69) (by omega)
   unfold Nu at h;try dsimp only at h
   refine gw9 (sq (rg rfl fun K j=>?_))
   refine A1.of (f:=Ap) (l:=f_.Bulletin) hx69 ?_
   refine nS ?_
   refine j _ _ (qn ?_);clear j K
   refine rg rfl fun K j=>?_
   obtain⟨y72,hy72,h⟩:=Ae h
   refine Ah.pure Tryz.call136 (Hj vt hy72) rfl fun _ hr=>?_
   subst hr
   refine nS ?_
   obtain⟨hk,h⟩:=Bc h
   (repeat refine rp ?_);try simp +decide -implicitDefEqProofs only[go_sem]
   refine j _ _ (bn (qn ?_));clear j K
   refine gw3 rfl ?_
   refine lE hlt69 pd h (lk+1) ?_ ?_<;>exact cuw hw69
  obtain rfl:=fnD pd hc
  have h:=Ao hO69;try dsimp only at h
  have af:=leD hk69 hc
  subst af
  refine Cr rfl ?_
  refine nSc Tryz.results135 ?_
  refine j _ _ (qn (sq ?_));clear j K
  refine rg rfl fun K j=>?_
  obtain⟨sn,hy73,h⟩:=Ae h
  refine Ah.pure Tryz.call137 (Ds f_.Missions hy73) rfl fun _ hr=>?_
  subst hr
  refine nS ?_
  refine j _ _ (qn (sq ?_));clear j K
  refine rg rfl fun K j=>?_
  refine Ah.inline Tryz.call138 Tryz.func138 rfl rfl (by show _≤25;simp) ?_
  refine nS (sq ?_)
  refine gw7 rfl ?_
  refine rg rfl fun K j=>?_
  intro hm
  obtain⟨hk,h⟩:=Bc h
  (repeat refine rp ?_);try simp +decide -implicitDefEqProofs only[go_sem]
  refine j _ _ (qn (sq (sq ?_)));clear j K
  refine rg rfl fun K j=>?_
  intro hm
  refine j _ _ (qn (bk ?_));clear j K
  obtain⟨o75,pc,hO75⟩:=Ae h
  clear h
  refine AWP.Bh pc (0:Nat) (fun zz=>[(1,.func 139 []),(5,.own 17 zz.2.2 0 zz.2.1.length),(11,.sl 4 (f_.Winches.map Aj)),(12,.int .i64 ((f_.Winches.length:Nat):Int)),(13,.int .i64 ((zz.1:Nat):Int))]) (fun zz=>[.box (Ai f_),.box [.int .i64 run],.box [.nils,.nils,.nils,.nils,.nils,.nils,.nils,.nils,.nils,.nils,.nils,.nils,.nils,.nils,.nils,.nils,.int .i64 0,.int .i64 0],.box (Bj y1.1),.row 1 1 ((y2++[run]).map An),.row 0 1 ([run].map An),.gone,.gone,.box [.sl 2 (oq.map Bq),.sl 8 (oo.map Bl),.sl 7 (om.map Bj),.sl 1 (oh.map An),.sl 2 (og.map A4),.sl 4 (oe.map Ay),.own 14 gy 0 eo.length,.sl 3 (px.map Bg),.sl 3 (pw.map Bd),.sl 5 (pt.map A6),.own 15 jm 0 fj.length,.own 16 lk 0 gl.length,.sl 7 (sn.map Aq),.sl 4 (f_.Winches.map Aj),.sl 8 (f_.Groomers.map A7),.sl 3 (f_.Status.map Ax),.int .i64 f_.Depth,.int .i64 f_.Time],.box [.nils,.nils,.nils,.nils,.nils,.nils,.nils,.nils,.nils,.nils,.nils,.nils,.nils,.nils,.nils,.nils,.int .i64 0,.int .i64 0],.gone,.gone,.gone,.gone,.row gy 4 (eo.map A3),.row jm 6 (fj.map Az),.row lk 7 (gl.map Ap),.row zz.2.2 4 (zz.2.1.map Aj)]) ?_
  rintro k75 jc ql hk75 pc
  dsimp only
  refine Cy rfl ?_
  refine cC rfl ?_ ?_<;>intro hc
  ·obtain⟨vr,b75,hlt75,hx75_,hx75,h,pc⟩:=fcD pc hc
   have hw75:=wk (k:=k75) (by omega)
   unfold Nt at h;try dsimp only at h
   refine gw9 (sq (rg rfl fun K j=>?_))
   refine A1.of (f:=Aj) (l:=f_.Winches) hx75 ?_
   refine nS ?_
   refine j _ _ (qn ?_);clear j K
   refine rg rfl fun K j=>?_
   obtain⟨y78,hy78,h⟩:=Ae h
   refine Ah.pure Tryz.call139 (Hi vr hy78) rfl fun _ hr=>?_
   subst hr
   refine nS ?_
   obtain⟨hk,h⟩:=Bc h
   (repeat refine rp ?_);try simp +decide -implicitDefEqProofs only[go_sem]
   refine j _ _ (bn (qn ?_));clear j K
   refine gw3 rfl ?_
   refine lE hlt75 pc h (ql+1) ?_ ?_<;>exact cuw hw75
  obtain rfl:=fnD pc hc
  have h:=Ao hO75;try dsimp only at h
  have af:=leD hk75 hc
  subst af
  refine Cr rfl ?_
  refine nSc Tryz.results138 ?_
  refine j _ _ (qn (sq ?_));clear j K
  refine rg rfl fun K j=>?_
  obtain⟨tg,hy79,h⟩:=Ae h
  refine Ah.pure Tryz.call140 (Dt f_.Groomers hy79) rfl fun _ hr=>?_
  subst hr
  refine nS ?_
  refine j _ _ (qn (sq ?_));clear j K
  refine rg rfl fun K j=>?_
  obtain⟨ik,hy80,h⟩:=Ae h
  refine Ah.row Tryz.call141 (D4 f_.Status hy80) rfl 18 rfl ?_
  (try simp +decide -implicitDefEqProofs only[go_sem,Aow])
  refine j _ _ (qn (sq ?_));clear j K
  refine ar rfl (Cu ?_)
  refine nSc Tryz.results57 ?_
  refine j (sq (B5 rfl ?_))
  refine gw3 rfl ?_
  refine cf rfl (Co (Cy rfl (bk ?_)))
  obtain⟨o81,kj,hO81⟩:=Ae h
  clear h
  refine AWP.Ma (ι:=Nat×(Int)×(Unit)) (fun zz=>[(3,.ptr 1 0),(4,.ptr 2 0),(11,.ptr 19 0),(12,.ptr 20 0),(13,.int .i64 zz.2.1)]) (fun zz=>[.gone,.box [.int .i64 run],.box [.nils,.nils,.nils,.nils,.nils,.nils,.nils,.nils,.nils,.nils,.nils,.nils,.nils,.nils,.nils,.nils,.int .i64 0,.int .i64 0],.gone,.gone,.gone,.gone,.gone,.gone,.gone,.gone,.gone,.gone,.gone,.row gy 4 (eo.map A3),.row jm 6 (fj.map Az),.row lk 7 (gl.map Ap),.row ql 4 (jc.map Aj),.row 0 3 (ik.map Ax),.box [.sl 2 (oq.map Bq),.sl 8 (oo.map Bl),.sl 7 (om.map Bj),.sl 1 (oh.map An),.sl 2 (og.map A4),.sl 4 (oe.map Ay),.own 14 gy 0 eo.length,.sl 3 (px.map Bg),.sl 3 (pw.map Bd),.sl 5 (pt.map A6),.own 15 jm 0 fj.length,.own 16 lk 0 gl.length,.sl 7 (sn.map Aq),.own 17 ql 0 jc.length,.sl 8 (tg.map A7),.own 18 0 0 ik.length,.int .i64 f_.Depth,.int .i64 f_.Time],.box [.int .i64 run,.bool true,.int .i64 f_.Time]]) (fun zz=>Dx (E3 f_ run oq oo om oh og oe eo px pw pt fj gl sn jc tg ik) zz.1 zz.2.1=some o81) (fun zz=>zz.1) (fuel,0,()) kj cu cu (fun x=>⟨rfl,rfl,rfl⟩) ?_
  clear kj
  rintro⟨n81,place81,⟨⟩⟩ kj
  dsimp only at kj ⊢
  obtain⟨m81,b81,rfl,h,kj⟩:=Fp kj
  unfold E3 at h;try dsimp only at h
  refine sq (sq (dR Tryz.mixed fun K j=>?_))
  refine nS ?_
  intro hm
  refine gT h ?_ ?_<;>intro hc h
  ·obtain⟨zd,uu,h⟩:=Ae h
   refine Ge uu (by first | rfl | exact(Cq _).symm | (simp only[Aou,List.length_cons,List.length_nil,List.length_set,Aov]<;>omega)) ?_
   refine nS ?_
   refine Dg.of (f:=Ax) (l:=ik) (n:=place81) uu ?_
   refine nS ?_
   refine j _ _ _ (by kernel_rfl) (qn (cA h rfl ?_ ?_))<;>intro hc h
   ·refine Co (bk (ar rfl (bn (qn ?_))))
    obtain rfl:=Aa h
    refine⟨(m81,(IntKind.i64.wrap (place81+1)),()),Cj kj,by dsimp only;omega,?_,?_⟩
    ·exact cu
    exact cu
   refine xt (qe (qe ?_))
   obtain⟨q83,hq,h⟩:=Ae h
   obtain rfl:=Aa h
   obtain rfl:=G7 kj
   replace h:=hq.trans (Pg hO81)
   refine bs (qn (rG rfl fun K j=>?_))
   rcases rL h with⟨hc,h⟩ | ⟨hc,h⟩
   ·refine Ah.inline Tryz.call58 Tryz.func58 rfl rfl (by show _≤95;simp) ?_
    refine nS (sq ?_)
    refine gw7 rfl ?_
    refine rg rfl fun K j=>?_
    obtain⟨hk,h⟩:=Fv h
    (repeat(refine⟨by omega,?_⟩))
    refine j _ _ (qn (sq ?_));clear j K
    refine B5 rfl ?_
    refine gw3 rfl ?_
    refine cf rfl (gw6 (rg rfl fun K j=>?_))
    intro hm
    refine j _ _ (qn (sq (sq ?_)));clear j K
    refine gw3 rfl ?_
    refine cA h rfl ?_ ?_<;>intro hc h
    ·refine sq (rg rfl fun K j=>?_)
     obtain⟨hk,h⟩:=Bc h
     (repeat refine rp ?_);try simp +decide -implicitDefEqProofs only[go_sem]
     refine j _ _ (qn (rt (qr ?_)));clear j K
     refine nSc Tryz.results58 ?_
     refine j (gw1 rfl ?_)
     cases h;exact en Tryz.results24
    refine gw6 (rG rfl fun K j=>?_)
    cases h
   obtain⟨bb,h⟩:=Fv h
   obtain⟨hk,h⟩:=Bc h
   refine Ah.lC Ax ik (Au.mk run true f_.Time) Tryz.call58 Tryz.inserts58 rfl rfl rfl (by decide) bb (by omega) ?_
   refine nS ?_
   refine j (gw1 rfl ?_)
   cases h;exact en Tryz.results24
  refine j _ _ _ (by kernel_rfl) (qn (cA h rfl ?_ ?_))<;>intro hc h
  ·refine Co (bk (ar rfl (bn (qn ?_))))
   obtain rfl:=Aa h
   refine⟨(m81,(IntKind.i64.wrap (place81+1)),()),Cj kj,by dsimp only;omega,?_,?_⟩
   ·exact cu
   exact cu
  refine xt (qe (qe ?_))
  obtain⟨q84,hq,h⟩:=Ae h
  obtain rfl:=Aa h
  obtain rfl:=G7 kj
  replace h:=hq.trans (Pg hO81)
  refine bs (qn (rG rfl fun K j=>?_))
  rcases rL h with⟨hc,h⟩ | ⟨hc,h⟩
  ·refine Ah.inline Tryz.call58 Tryz.func58 rfl rfl (by show _≤95;simp) ?_
   refine nS (sq ?_)
   refine gw7 rfl ?_
   refine rg rfl fun K j=>?_
   obtain⟨hk,h⟩:=Fv h
   (repeat(refine⟨by omega,?_⟩))
   refine j _ _ (qn (sq ?_));clear j K
   refine B5 rfl ?_
   refine gw3 rfl ?_
   refine cf rfl (gw6 (rg rfl fun K j=>?_))
   intro hm
   refine j _ _ (qn (sq (sq ?_)));clear j K
   refine gw3 rfl ?_
   refine cA h rfl ?_ ?_<;>intro hc h
   ·refine sq (rg rfl fun K j=>?_)
    obtain⟨hk,h⟩:=Bc h
    (repeat refine rp ?_);try simp +decide -implicitDefEqProofs only[go_sem]
    refine j _ _ (qn (rt (qr ?_)));clear j K
    refine nSc Tryz.results58 ?_
    refine j (gw1 rfl ?_)
    cases h;exact en Tryz.results24
   refine gw6 (rG rfl fun K j=>?_)
   cases h
  obtain⟨bb,h⟩:=Fv h
  obtain⟨hk,h⟩:=Bc h
  refine Ah.lC Ax ik (Au.mk run true f_.Time) Tryz.call58 Tryz.inserts58 rfl rfl rfl (by decide) bb (by omega) ?_
  refine nS ?_
  refine j (gw1 rfl ?_)
  cases h;exact en Tryz.results24
 obtain⟨cm,b3,da,lr,gn,h,bo⟩:=fcD bo hc
 have gi:=wk (k:=k3) (by omega)
 unfold J2 at h;try dsimp only at h
 refine gw9 (Cy rfl ?_)
 refine rg rfl fun K j=>?_
 refine A1.of (f:=Ax) (l:=f_.Status) gn ?_
 refine nS ?_
 refine Ah.inline Tryz.call56 Tryz.func56 rfl rfl (by show _≤8;simp) ?_
 refine nS (sq ?_)
 refine gw7 rfl ?_
 refine ar rfl (Cu ?_)
 refine nSc Tryz.results56 ?_
 refine j _ _ (qn ?_);clear j K
 refine cA h rfl ?_ ?_<;>intro hc h
 ·refine gw1 rfl (br (qr (qr ?_)))
  obtain⟨q46,hq,h⟩:=Ae h
  obtain rfl:=Aa h
  obtain rfl:=G7 bo
  replace h:=hq.trans (Pg ew)
  refine br (qr (nSc Tryz.results55 ?_))
  refine j ?_
  refine AWP.Ek (ι:=(Unit)×(Unit)) (fun zz=>[(2,.ptr 0 0),(3,.ptr 1 0),(4,.ptr 2 0),(8,.own 4 0 0 y2.length),(9,.int .i64 ((k3:Nat):Int))]) (fun zz=>[.box (Ai f_),.box [.int .i64 run],.box [.nils,.nils,.nils,.nils,.nils,.nils,.nils,.nils,.nils,.nils,.nils,.nils,.nils,.nils,.nils,.nils,.int .i64 0,.int .i64 0],.gone,.row 0 1 (y2.map An)]) (fun zz=>Fi f_ run y2 k3=some r) (fun zz=>⟨rfl,rfl,rfl⟩) ?_ ?_
  ·refine rG rfl fun K j=>?_
   refine gT h ?_ ?_<;>intro hc h
   ·intro hm
    refine j (cA h rfl ?_ ?_)<;>intro hc h
    ·refine gw8 rfl ?_
     cases h;exact en Tryz.results24
    refine Co ?_
    exact⟨((),()),h,cu,cu⟩
   refine j (cf rfl (Co ?_))
   exact⟨((),()),h,cu,cu⟩
  rintro⟨⟨⟩,⟨⟩⟩ h
  try dsimp only at h ⊢
  unfold Fi at h;try dsimp only at h
  refine sq (sq (dR Tryz.mixed fun K j=>?_))
  refine nS ?_
  obtain⟨hk,h⟩:=Bc h
  (repeat refine rp ?_);try simp +decide -implicitDefEqProofs only[go_sem]
  obtain⟨y7,eg,h⟩:=Ae h
  refine Br.snap Tryz.call18 (D7 f_ (y2++[run]) run eg) (by simp +decide -implicitDefEqProofs only[go_sem]) rfl ?_
  refine nS ?_
  refine j _ _ _ (by kernel_rfl) (qn (B8 rfl ?_))
  refine cA h rfl ?_ ?_<;>intro hc h
  ·refine gw8 rfl ?_
   cases h;exact en Tryz.results24
  refine Co (rG rfl fun K j=>?_)
  refine Ah.inline Tryz.call57 Tryz.func57 rfl rfl (by show _≤74;simp) ?_
  refine nS (sq ?_)
  refine gw7 rfl ?_
  refine dR Tryz.mixed fun K j=>?_
  refine nS ?_
  obtain⟨y8,ej,h⟩:=Ae h
  refine Br.pure Tryz.call122 (Ec f_.Map.Nodes ej) rfl ?_
  refine nS ?_
  obtain⟨y9,fu,h⟩:=Ae h
  refine Br.pure Tryz.call123 (Ed f_.Map.Lifts fu) rfl ?_
  refine nS ?_
  obtain⟨cr,dq,h⟩:=Ae h
  refine Br.pure Tryz.call124 (Eg f_.Map.Runs dq) rfl ?_
  refine nS ?_
  obtain⟨dz,ff,h⟩:=Ae h
  refine Br.pure Tryz.call67 (C4 f_.Map.Bases ff) rfl ?_
  refine nS ?_
  refine j _ _ _ (by kernel_rfl) ?_;clear j K
  refine qn (sq (rg rfl fun K j=>?_))
  obtain⟨ee,fw,h⟩:=Ae h
  refine Ah.pure Tryz.call125 (Dl f_.Lifts fw) rfl fun _ hr=>?_
  subst hr
  refine nS ?_
  refine j _ _ (qn (sq ?_));clear j K
  refine rg rfl fun K j=>?_
  obtain⟨gd,ir,h⟩:=Ae h
  refine Ah.pure Tryz.call126 (Du f_.Closures ir) rfl fun _ hr=>?_
  subst hr
  refine nS ?_
  refine j _ _ (qn (sq ?_));clear j K
  refine rg rfl fun K j=>?_
  refine Ah.inline Tryz.call127 Tryz.func127 rfl rfl (by show _≤25;simp) ?_
  refine nS (sq ?_)
  refine gw7 rfl ?_
  refine rg rfl fun K j=>?_
  intro hm
  obtain⟨hk,h⟩:=Bc h
  (repeat refine rp ?_);try simp +decide -implicitDefEqProofs only[go_sem]
  refine j _ _ (qn (sq (sq ?_)));clear j K
  refine rg rfl fun K j=>?_
  intro hm
  refine j _ _ (qn (bk ?_));clear j K
  obtain⟨o15,gx,yj⟩:=Ae h
  clear h
  refine AWP.Bh gx (0:Nat) (fun zz=>[(1,.func 128 []),(5,.own 14 zz.2.2 0 zz.2.1.length),(11,.sl 4 (f_.Patrol.Ci.map A3)),(12,.int .i64 ((f_.Patrol.Ci.length:Nat):Int)),(13,.int .i64 ((zz.1:Nat):Int))]) (fun zz=>[.box (Ai f_),.box [.int .i64 run],.box [.nils,.nils,.nils,.nils,.nils,.nils,.nils,.nils,.nils,.nils,.nils,.nils,.nils,.nils,.nils,.nils,.int .i64 0,.int .i64 0],.gone,.row 1 1 ((y2++[run]).map An),.row 0 1 ([run].map An),.gone,.gone,.box [.sl 2 (y8.map Bq),.sl 8 (y9.map Bl),.sl 7 (cr.map Bj),.sl 1 (dz.map An),.sl 2 (ee.map A4),.sl 4 (gd.map Ay),.sl 4 (f_.Patrol.Ci.map A3),.sl 3 (f_.Patrol.Hazards.map Bg),.sl 3 (f_.Surfaces.map Bd),.sl 5 (f_.Packs.map A6),.sl 6 (f_.Slides.map Az),.sl 7 (f_.Bulletin.map Ap),.sl 7 (f_.Missions.map Aq),.sl 4 (f_.Winches.map Aj),.sl 8 (f_.Groomers.map A7),.sl 3 (f_.Status.map Ax),.int .i64 f_.Depth,.int .i64 f_.Time],.box [.nils,.nils,.nils,.nils,.nils,.nils,.nils,.nils,.nils,.nils,.nils,.nils,.nils,.nils,.nils,.nils,.int .i64 0,.int .i64 0],.gone,.gone,.gone,.gone,.row zz.2.2 4 (zz.2.1.map A3)]) ?_
  rintro k15 dj fi hk15 gx
  dsimp only
  refine Cy rfl ?_
  refine cC rfl ?_ ?_<;>intro hc
  ·obtain⟨ke,b15,hlt15,hx15_,hx15,h,gx⟩:=fcD gx hc
   have hw15:=wk (k:=k15) (by omega)
   unfold Pr at h;try dsimp only at h
   refine gw9 (sq (rg rfl fun K j=>?_))
   refine A1.of (f:=A3) (l:=f_.Patrol.Ci) hx15 ?_
   refine nS ?_
   refine j _ _ (qn ?_);clear j K
   refine rg rfl fun K j=>?_
   obtain⟨zb,wu,h⟩:=Ae h
   refine Ah.pure Tryz.call128 (Hl ke wu) rfl fun _ hr=>?_
   subst hr
   refine nS ?_
   obtain⟨hk,h⟩:=Bc h
   (repeat refine rp ?_);try simp +decide -implicitDefEqProofs only[go_sem]
   refine j _ _ (bn (qn ?_));clear j K
   refine gw3 rfl ?_
   refine lE hlt15 gx h (fi+1) ?_ ?_<;>exact cuw hw15
  obtain rfl:=fnD gx hc
  have h:=Ao yj;try dsimp only at h
  have af:=leD hk15 hc
  subst af
  refine Cr rfl ?_
  refine nSc Tryz.results127 ?_
  refine j _ _ (qn (sq ?_));clear j K
  refine rg rfl fun K j=>?_
  obtain⟨mn,wq,h⟩:=Ae h
  refine Ah.pure Tryz.call130 (Dy f_.Patrol.Hazards wq) rfl fun _ hr=>?_
  subst hr
  refine nS ?_
  refine j _ _ (qn (sq ?_));clear j K
  refine rg rfl fun K j=>?_
  obtain⟨ml,wo,h⟩:=Ae h
  refine Ah.pure Tryz.call131 (Dq f_.Surfaces wo) rfl fun _ hr=>?_
  subst hr
  refine nS ?_
  refine j _ _ (qn (sq ?_));clear j K
  refine rg rfl fun K j=>?_
  obtain⟨ks,qu,h⟩:=Ae h
  refine Ah.pure Tryz.call132 (Dr f_.Packs qu) rfl fun _ hr=>?_
  subst hr
  refine nS ?_
  refine j _ _ (qn (sq ?_));clear j K
  refine rg rfl fun K j=>?_
  refine Ah.inline Tryz.call133 Tryz.func133 rfl rfl (by show _≤25;simp) ?_
  refine nS (sq ?_)
  refine gw7 rfl ?_
  refine rg rfl fun K j=>?_
  intro hm
  obtain⟨hk,h⟩:=Bc h
  (repeat refine rp ?_);try simp +decide -implicitDefEqProofs only[go_sem]
  refine j _ _ (qn (sq (sq ?_)));clear j K
  refine rg rfl fun K j=>?_
  intro hm
  refine j _ _ (qn (bk ?_));clear j K
  obtain⟨o23,dd,mg⟩:=Ae h
  clear h
  refine AWP.Bh dd (0:Nat) (fun zz=>[(1,.func 134 []),(5,.own 15 zz.2.2 0 zz.2.1.length),(11,.sl 6 (f_.Slides.map Az)),(12,.int .i64 ((f_.Slides.length:Nat):Int)),(13,.int .i64 ((zz.1:Nat):Int))]) (fun zz=>[.box (Ai f_),.box [.int .i64 run],.box [.nils,.nils,.nils,.nils,.nils,.nils,.nils,.nils,.nils,.nils,.nils,.nils,.nils,.nils,.nils,.nils,.int .i64 0,.int .i64 0],.gone,.row 1 1 ((y2++[run]).map An),.row 0 1 ([run].map An),.gone,.gone,.box [.sl 2 (y8.map Bq),.sl 8 (y9.map Bl),.sl 7 (cr.map Bj),.sl 1 (dz.map An),.sl 2 (ee.map A4),.sl 4 (gd.map Ay),.own 14 fi 0 dj.length,.sl 3 (mn.map Bg),.sl 3 (ml.map Bd),.sl 5 (ks.map A6),.sl 6 (f_.Slides.map Az),.sl 7 (f_.Bulletin.map Ap),.sl 7 (f_.Missions.map Aq),.sl 4 (f_.Winches.map Aj),.sl 8 (f_.Groomers.map A7),.sl 3 (f_.Status.map Ax),.int .i64 f_.Depth,.int .i64 f_.Time],.box [.nils,.nils,.nils,.nils,.nils,.nils,.nils,.nils,.nils,.nils,.nils,.nils,.nils,.nils,.nils,.nils,.int .i64 0,.int .i64 0],.gone,.gone,.gone,.gone,.row fi 4 (dj.map A3),.row zz.2.2 6 (zz.2.1.map Az)]) ?_
  rintro zg dw dv xw dd
  dsimp only
  refine Cy rfl ?_
  refine cC rfl ?_ ?_<;>intro hc
  ·obtain⟨ka,b23,rl,zp,xd,h,dd⟩:=fcD dd hc
   have xh:=wk (k:=zg) (by omega)
   unfold Pq at h;try dsimp only at h
   refine gw9 (sq (rg rfl fun K j=>?_))
   refine A1.of (f:=Az) (l:=f_.Slides) xd ?_
   refine nS ?_
   refine j _ _ (qn ?_);clear j K
   refine rg rfl fun K j=>?_
   obtain⟨za,wm,h⟩:=Ae h
   refine Ah.pure Tryz.call134 (Hk ka wm) rfl fun _ hr=>?_
   subst hr
   refine nS ?_
   obtain⟨hk,h⟩:=Bc h
   (repeat refine rp ?_);try simp +decide -implicitDefEqProofs only[go_sem]
   refine j _ _ (bn (qn ?_));clear j K
   refine gw3 rfl ?_
   refine lE rl dd h (dv+1) ?_ ?_<;>exact cuw xh
  obtain rfl:=fnD dd hc
  have h:=Ao mg;try dsimp only at h
  have af:=leD xw hc
  subst af
  refine Cr rfl ?_
  refine nSc Tryz.results133 ?_
  refine j _ _ (qn (sq ?_));clear j K
  refine rg rfl fun K j=>?_
  refine Ah.inline Tryz.call135 Tryz.func135 rfl rfl (by show _≤25;simp) ?_
  refine nS (sq ?_)
  refine gw7 rfl ?_
  refine rg rfl fun K j=>?_
  intro hm
  obtain⟨hk,h⟩:=Bc h
  (repeat refine rp ?_);try simp +decide -implicitDefEqProofs only[go_sem]
  refine j _ _ (qn (sq (sq ?_)));clear j K
  refine rg rfl fun K j=>?_
  intro hm
  refine j _ _ (qn (bk ?_));clear j K
  obtain⟨o28,pj,hO28⟩:=Ae h
  clear h
  refine AWP.Bh pj (0:Nat) (fun zz=>[(1,.func 136 []),(5,.own 16 zz.2.2 0 zz.2.1.length),(11,.sl 7 (f_.Bulletin.map Ap)),(12,.int .i64 ((f_.Bulletin.length:Nat):Int)),(13,.int .i64 ((zz.1:Nat):Int))]) (fun zz=>[.box (Ai f_),.box [.int .i64 run],.box [.nils,.nils,.nils,.nils,.nils,.nils,.nils,.nils,.nils,.nils,.nils,.nils,.nils,.nils,.nils,.nils,.int .i64 0,.int .i64 0],.gone,.row 1 1 ((y2++[run]).map An),.row 0 1 ([run].map An),.gone,.gone,.box [.sl 2 (y8.map Bq),.sl 8 (y9.map Bl),.sl 7 (cr.map Bj),.sl 1 (dz.map An),.sl 2 (ee.map A4),.sl 4 (gd.map Ay),.own 14 fi 0 dj.length,.sl 3 (mn.map Bg),.sl 3 (ml.map Bd),.sl 5 (ks.map A6),.own 15 dv 0 dw.length,.sl 7 (f_.Bulletin.map Ap),.sl 7 (f_.Missions.map Aq),.sl 4 (f_.Winches.map Aj),.sl 8 (f_.Groomers.map A7),.sl 3 (f_.Status.map Ax),.int .i64 f_.Depth,.int .i64 f_.Time],.box [.nils,.nils,.nils,.nils,.nils,.nils,.nils,.nils,.nils,.nils,.nils,.nils,.nils,.nils,.nils,.nils,.int .i64 0,.int .i64 0],.gone,.gone,.gone,.gone,.row fi 4 (dj.map A3),.row dv 6 (dw.map Az),.row zz.2.2 7 (zz.2.1.map Ap)]) ?_
  rintro k28 gm ll hk28 pj
  dsimp only
  refine Cy rfl ?_
  refine cC rfl ?_ ?_<;>intro hc
  ·obtain⟨vz,b28,hlt28,hx28_,hx28,h,pj⟩:=fcD pj hc
   have hw28:=wk (k:=k28) (by omega)
   unfold Pp at h;try dsimp only at h
   refine gw9 (sq (rg rfl fun K j=>?_))
   refine A1.of (f:=Ap) (l:=f_.Bulletin) hx28 ?_
   refine nS ?_
   refine j _ _ (qn ?_);clear j K
   refine rg rfl fun K j=>?_
   obtain⟨y31,hy31,h⟩:=Ae h
   refine Ah.pure Tryz.call136 (Hj vz hy31) rfl fun _ hr=>?_
   subst hr
   refine nS ?_
   obtain⟨hk,h⟩:=Bc h
   (repeat refine rp ?_);try simp +decide -implicitDefEqProofs only[go_sem]
   refine j _ _ (bn (qn ?_));clear j K
   refine gw3 rfl ?_
   refine lE hlt28 pj h (ll+1) ?_ ?_<;>exact cuw hw28
  obtain rfl:=fnD pj hc
  have h:=Ao hO28;try dsimp only at h
  have af:=leD hk28 hc
  subst af
  refine Cr rfl ?_
  refine nSc Tryz.results135 ?_
  refine j _ _ (qn (sq ?_));clear j K
  refine rg rfl fun K j=>?_
  obtain⟨ns,wh,h⟩:=Ae h
  refine Ah.pure Tryz.call137 (Ds f_.Missions wh) rfl fun _ hr=>?_
  subst hr
  refine nS ?_
  refine j _ _ (qn (sq ?_));clear j K
  refine rg rfl fun K j=>?_
  refine Ah.inline Tryz.call138 Tryz.func138 rfl rfl (by show _≤25;simp) ?_
  refine nS (sq ?_)
  refine gw7 rfl ?_
  refine rg rfl fun K j=>?_
  intro hm
  obtain⟨hk,h⟩:=Bc h
  (repeat refine rp ?_);try simp +decide -implicitDefEqProofs only[go_sem]
  refine j _ _ (qn (sq (sq ?_)));clear j K
  refine rg rfl fun K j=>?_
  intro hm
  refine j _ _ (qn (bk ?_));clear j K
  obtain⟨o34,pg,hO34⟩:=Ae h
  clear h
  refine AWP.Bh pg (0:Nat) (fun zz=>[(1,.func 139 []),(5,.own 17 zz.2.2 0 zz.2.1.length),(11,.sl 4 (f_.Winches.map Aj)),(12,.int .i64 ((f_.Winches.length:Nat):Int)),(13,.int .i64 ((zz.1:Nat):Int))]) (fun zz=>[.box (Ai f_),.box [.int .i64 run],.box [.nils,.nils,.nils,.nils,.nils,.nils,.nils,.nils,.nils,.nils,.nils,.nils,.nils,.nils,.nils,.nils,.int .i64 0,.int .i64 0],.gone,.row 1 1 ((y2++[run]).map An),.row 0 1 ([run].map An),.gone,.gone,.box [.sl 2 (y8.map Bq),.sl 8 (y9.map Bl),.sl 7 (cr.map Bj),.sl 1 (dz.map An),.sl 2 (ee.map A4),.sl 4 (gd.map Ay),.own 14 fi 0 dj.length,.sl 3 (mn.map Bg),.sl 3 (ml.map Bd),.sl 5 (ks.map A6),.own 15 dv 0 dw.length,.own 16 ll 0 gm.length,.sl 7 (ns.map Aq),.sl 4 (f_.Winches.map Aj),.sl 8 (f_.Groomers.map A7),.sl 3 (f_.Status.map Ax),.int .i64 f_.Depth,.int .i64 f_.Time],.box [.nils,.nils,.nils,.nils,.nils,.nils,.nils,.nils,.nils,.nils,.nils,.nils,.nils,.nils,.nils,.nils,.int .i64 0,.int .i64 0],.gone,.gone,.gone,.gone,.row fi 4 (dj.map A3),.row dv 6 (dw.map Az),.row ll 7 (gm.map Ap),.row zz.2.2 4 (zz.2.1.map Aj)]) ?_
  rintro k34 jd qo hk34 pg
  dsimp only
  refine Cy rfl ?_
  refine cC rfl ?_ ?_<;>intro hc
  ·obtain⟨vx,b34,hlt34,hx34_,hx34,h,pg⟩:=fcD pg hc
   have hw34:=wk (k:=k34) (by omega)
   unfold Po at h;try dsimp only at h
   refine gw9 (sq (rg rfl fun K j=>?_))
   refine A1.of (f:=Aj) (l:=f_.Winches) hx34 ?_
   refine nS ?_
   refine j _ _ (qn ?_);clear j K
   refine rg rfl fun K j=>?_
   obtain⟨y37,hy37,h⟩:=Ae h
   refine Ah.pure Tryz.call139 (Hi vx hy37) rfl fun _ hr=>?_
   subst hr
   refine nS ?_
   obtain⟨hk,h⟩:=Bc h
   (repeat refine rp ?_);try simp +decide -implicitDefEqProofs only[go_sem]
   refine j _ _ (bn (qn ?_));clear j K
   refine gw3 rfl ?_
   refine lE hlt34 pg h (qo+1) ?_ ?_<;>exact cuw hw34
  obtain rfl:=fnD pg hc
  have h:=Ao hO34;try dsimp only at h
  have af:=leD hk34 hc
  subst af
  refine Cr rfl ?_
  refine nSc Tryz.results138 ?_
  refine j _ _ (qn (sq ?_));clear j K
  refine rg rfl fun K j=>?_
  obtain⟨sr,hy38,h⟩:=Ae h
  refine Ah.pure Tryz.call140 (Dt f_.Groomers hy38) rfl fun _ hr=>?_
  subst hr
  refine nS ?_
  refine j _ _ (qn (sq ?_));clear j K
  refine rg rfl fun K j=>?_
  obtain⟨gh,wg,h⟩:=Ae h
  refine Ah.row Tryz.call141 (D4 f_.Status wg) rfl 18 rfl ?_
  (try simp +decide -implicitDefEqProofs only[go_sem,Aow])
  refine j _ _ (qn (sq ?_));clear j K
  refine ar rfl (Cu ?_)
  refine nSc Tryz.results57 ?_
  refine j (sq (B5 rfl ?_))
  refine gw3 rfl ?_
  refine cA h rfl ?_ ?_<;>intro hc h
  ·refine rG rfl fun K j=>?_
   obtain⟨vw,qy,h⟩:=Ae h
   refine Ge qy (by first | rfl | exact(Cq _).symm | (simp only[Aou,List.length_cons,List.length_nil,List.length_set,Aov]<;>omega)) ?_
   refine nS ?_
   refine Dg.ofNat (f:=Ax) (l:=gh) (n:=k3) qy ?_
   have hs41:=Rx (y:=(Au.mk run true f_.Time)) qy
   refine nS ?_
   refine j (gw8 rfl ?_)
   cases h;exact en Tryz.results24
  refine Co (Cy rfl (bk ?_))
  obtain⟨o42,km,hO42⟩:=Ae h
  clear h
  refine AWP.Ma (ι:=Nat×(Int)×(Unit)) (fun zz=>[(3,.ptr 1 0),(4,.ptr 2 0),(11,.ptr 19 0),(12,.ptr 20 0),(13,.int .i64 zz.2.1)]) (fun zz=>[.gone,.box [.int .i64 run],.box [.nils,.nils,.nils,.nils,.nils,.nils,.nils,.nils,.nils,.nils,.nils,.nils,.nils,.nils,.nils,.nils,.int .i64 0,.int .i64 0],.gone,.gone,.gone,.gone,.gone,.gone,.gone,.gone,.gone,.gone,.gone,.row fi 4 (dj.map A3),.row dv 6 (dw.map Az),.row ll 7 (gm.map Ap),.row qo 4 (jd.map Aj),.row 0 3 (gh.map Ax),.box [.sl 2 (y8.map Bq),.sl 8 (y9.map Bl),.sl 7 (cr.map Bj),.sl 1 (dz.map An),.sl 2 (ee.map A4),.sl 4 (gd.map Ay),.own 14 fi 0 dj.length,.sl 3 (mn.map Bg),.sl 3 (ml.map Bd),.sl 5 (ks.map A6),.own 15 dv 0 dw.length,.own 16 ll 0 gm.length,.sl 7 (ns.map Aq),.own 17 qo 0 jd.length,.sl 8 (sr.map A7),.own 18 0 0 gh.length,.int .i64 f_.Depth,.int .i64 f_.Time],.box [.int .i64 run,.bool true,.int .i64 f_.Time]]) (fun zz=>Dx (Pn f_ run y8 y9 cr dz ee gd dj mn ml ks dw gm ns jd sr gh) zz.1 zz.2.1=some o42) (fun zz=>zz.1) (fuel,0,()) km cu cu (fun x=>⟨rfl,rfl,rfl⟩) ?_
  clear km
  rintro⟨n42,place42,⟨⟩⟩ km
  dsimp only at km ⊢
  obtain⟨m42,b42,rfl,h,km⟩:=Fp km
  unfold Pn at h;try dsimp only at h
  refine sq (sq (dR Tryz.mixed fun K j=>?_))
  refine nS ?_
  intro hm
  refine gT h ?_ ?_<;>intro hc h
  ·obtain⟨ze,uv,h⟩:=Ae h
   refine Ge uv (by first | rfl | exact(Cq _).symm | (simp only[Aou,List.length_cons,List.length_nil,List.length_set,Aov]<;>omega)) ?_
   refine nS ?_
   refine Dg.of (f:=Ax) (l:=gh) (n:=place42) uv ?_
   refine nS ?_
   refine j _ _ _ (by kernel_rfl) (qn (cA h rfl ?_ ?_))<;>intro hc h
   ·refine Co (bk (ar rfl (bn (qn ?_))))
    obtain rfl:=Aa h
    refine⟨(m42,(IntKind.i64.wrap (place42+1)),()),Cj km,by dsimp only;omega,?_,?_⟩
    ·exact cu
    exact cu
   refine xt (qe (qe ?_))
   obtain⟨q44,hq,h⟩:=Ae h
   obtain rfl:=Aa h
   obtain rfl:=G7 km
   replace h:=hq.trans (Pg hO42)
   refine bs (qn (rG rfl fun K j=>?_))
   rcases rL h with⟨hc,h⟩ | ⟨hc,h⟩
   ·refine Ah.inline Tryz.call58 Tryz.func58 rfl rfl (by show _≤95;simp) ?_
    refine nS (sq ?_)
    refine gw7 rfl ?_
    refine rg rfl fun K j=>?_
    obtain⟨hk,h⟩:=Fv h
    (repeat(refine⟨by omega,?_⟩))
    refine j _ _ (qn (sq ?_));clear j K
    refine B5 rfl ?_
    refine gw3 rfl ?_
    refine cf rfl (gw6 (rg rfl fun K j=>?_))
    intro hm
    refine j _ _ (qn (sq (sq ?_)));clear j K
    refine gw3 rfl ?_
    refine cA h rfl ?_ ?_<;>intro hc h
    ·refine sq (rg rfl fun K j=>?_)
     obtain⟨hk,h⟩:=Bc h
     (repeat refine rp ?_);try simp +decide -implicitDefEqProofs only[go_sem]
     refine j _ _ (qn (rt (qr ?_)));clear j K
     refine nSc Tryz.results58 ?_
     refine j (gw1 rfl ?_)
     cases h;exact en Tryz.results24
    refine gw6 (rG rfl fun K j=>?_)
    cases h
   obtain⟨bb,h⟩:=Fv h
   obtain⟨hk,h⟩:=Bc h
   refine Ah.lC Ax gh (Au.mk run true f_.Time) Tryz.call58 Tryz.inserts58 rfl rfl rfl (by decide) bb (by omega) ?_
   refine nS ?_
   refine j (gw1 rfl ?_)
   cases h;exact en Tryz.results24
  refine j _ _ _ (by kernel_rfl) (qn (cA h rfl ?_ ?_))<;>intro hc h
  ·refine Co (bk (ar rfl (bn (qn ?_))))
   obtain rfl:=Aa h
   refine⟨(m42,(IntKind.i64.wrap (place42+1)),()),Cj km,by dsimp only;omega,?_,?_⟩
   ·exact cu
   exact cu
  refine xt (qe (qe ?_))
  obtain⟨q45,hq,h⟩:=Ae h
  obtain rfl:=Aa h
  obtain rfl:=G7 km
  replace h:=hq.trans (Pg hO42)
  refine bs (qn (rG rfl fun K j=>?_))
  rcases rL h with⟨hc,h⟩ | ⟨hc,h⟩
  ·refine Ah.inline Tryz.call58 Tryz.func58 rfl rfl (by show _≤95;simp) ?_
   refine nS (sq ?_)
   refine gw7 rfl ?_
   refine rg rfl fun K j=>?_
   obtain⟨hk,h⟩:=Fv h
   (repeat(refine⟨by omega,?_⟩))
   refine j _ _ (qn (sq ?_));clear j K
   refine B5 rfl ?_
   refine gw3 rfl ?_
   refine cf rfl (gw6 (rg rfl fun K j=>?_))
   intro hm
   refine j _ _ (qn (sq (sq ?_)));clear j K
   refine gw3 rfl ?_
   refine cA h rfl ?_ ?_<;>intro hc h
   ·refine sq (rg rfl fun K j=>?_)
    obtain⟨hk,h⟩:=Bc h
    (repeat refine rp ?_);try simp +decide -implicitDefEqProofs only[go_sem]
    refine j _ _ (qn (rt (qr ?_)));clear j K
    refine nSc Tryz.results58 ?_
    refine j (gw1 rfl ?_)
    cases h;exact en Tryz.results24
   refine gw6 (rG rfl fun K j=>?_)
   cases h
  obtain⟨bb,h⟩:=Fv h
  obtain⟨hk,h⟩:=Bc h
  refine Ah.lC Ax gh (Au.mk run true f_.Time) Tryz.call58 Tryz.inserts58 rfl rfl rfl (by decide) bb (by omega) ?_
  refine nS ?_
  refine j (gw1 rfl ?_)
  cases h;exact en Tryz.results24
 refine gw5 rfl ?_
 refine lE da bo h () ?_ ?_<;>exact cuw gi
def C8 (n_:Int) (least:Int) (most:Int):Option (Bool):=
 (bif (decide (least≤n_))then some (decide (n_≤most))else some false)
theorem Cp (n_:Int) (least:Int) (most:Int) {r:Bool} (h:C8 n_ least most=some r):Ad Tryz.prog 238 [.int .i64 n_,.int .i64 least,.int .i64 most] (·= .bool r):=by
 refine Ad.nle (Ad.intro Tryz.func238 rfl rfl (by show _≤15;simp) ?_)
 unfold C8 at h
 refine nS (sq ?_)
 refine gw7 rfl ?_
 refine rg rfl fun K j=>?_
 refine gT h ?_ ?_<;>intro hc h
 ·refine j _ _ (Cu ?_)
  cases h;exact en Tryz.results238
 refine j _ _ (Cu ?_)
 cases h;exact en Tryz.results238
def P0 (m:Av) (k0:Nat) (ab:Cx) (sv:Unit):Option (Out (Unit) (Int)):=
 (C8 ab.ID 1 9999).bind fun y3=>(bif (!y3)then some (Out.ret 2)else (C8 ab.Alt 0 5000).bind fun y4=>(bif (!y4)then some (Out.ret 2)else (bif (decide (0<((k0:Nat):Int)))then (Da m.Nodes (IntKind.i64.wrap (((k0:Nat):Int) - 1))).bind fun cm=>(bif (decide (ab.ID≤cm.ID))then some (Out.ret 7)else some (Out.next ()))else some (Out.next ()))))
def Nl (m:Av):Option (Int):=
 (Al (P0 m) 0 m.Nodes ()).bind fun o0=>o0.on fun s0=>some 0
theorem V6 (m:Av) {r:Int} (h:Nl m=some r):Ad Tryz.prog 153 [.agg (Be m)] (·= .int .i64 r):=by
 refine Ad.nle (Ad.intro Tryz.func153 rfl rfl (by show _≤38;simp) ?_)
 unfold Nl at h
 refine nS (sq ?_)
 refine B5 rfl ?_
 refine rg rfl fun K j=>?_
 intro hm
 refine j _ _ (qn (bk ?_))
 obtain⟨o0,aa,ae⟩:=Ae h
 clear h
 refine AWP.Bh aa () (fun zz=>[(1,.ptr 0 0),(6,.sl 2 (m.Nodes.map Bq)),(7,.int .i64 ((m.Nodes.length:Nat):Int)),(8,.int .i64 ((zz.1:Nat):Int))]) (fun zz=>[.box (Be m)]) ?_
 rintro k0 ⟨⟩ ⟨⟩ bb aa
 dsimp only
 refine Cy rfl ?_
 refine cD rfl ?_ ?_<;>intro hc
 ·obtain rfl:=fnD aa hc
  have h:=Ao ae;try dsimp only at h
  have af:=leD bb hc
  subst af
  refine Cr rfl ?_
  cases h;exact en Tryz.results153
 obtain⟨ab,b0,ag,bh,ao,h,aa⟩:=fcD aa hc
 have ay:=wk (k:=k0) (by omega)
 unfold P0 at h;try dsimp only at h
 refine gw9 (rG rfl fun K j=>?_)
 refine A1.of (f:=Bq) (l:=m.Nodes) ao ?_
 refine nS ?_
 refine j (sq (rG rfl fun K j=>?_))
 obtain⟨y3,bu,h⟩:=Ae h
 refine Ah.pure Tryz.call238 (Cp ab.ID 1 9999 bu) rfl fun _ hr=>?_
 subst hr
 refine nS ?_
 refine gF' h ?_ ?_<;>intro hc h
 ·refine j (ct rfl (Cd rfl ?_))
  cases x0 h aa ae;exact en Tryz.results153
 obtain⟨y4,ch,h⟩:=Ae h
 refine Ah.pure Tryz.call238 (Cp ab.Alt 0 5000 ch) rfl fun _ hr=>?_
 subst hr
 refine nS ?_
 refine j (cA h rfl ?_ ?_)<;>intro hc h
 ·refine Cd rfl ?_
  cases x0 h aa ae;exact en Tryz.results153
 refine gw6 (dR Tryz.mixed fun K j=>?_)
 refine nS ?_
 refine gT h ?_ ?_<;>intro hc h
 ·obtain⟨cm,iu,h⟩:=Ae h
  refine A1.of (f:=Bq) (l:=m.Nodes) iu ?_
  refine nS ?_
  refine j _ _ _ (by kernel_rfl) (qn (cA h rfl ?_ ?_))<;>intro hc h
  ·refine Cs rfl ?_
   cases x0 h aa ae;exact en Tryz.results153
  refine gw5 rfl ?_
  refine lE ag aa h () ?_ ?_<;>exact cuw ay
 refine j _ _ _ (by kernel_rfl) (qn (cf rfl (gw5 rfl ?_)))
 refine lE ag aa h () ?_ ?_<;>exact cuw ay
def Gl (m:Av) (ab:Ck):Option (Out (Unit) (Int)):=
 (Ef m ab.From).bind fun cr=>(Ef m ab.To).bind fun dz=>(bif (!cr.2)then some (Out.ret 8)else (bif (!dz.2)then some (Out.ret 8)else (bif (decide (dz.1.Alt≤cr.1.Alt))then some (Out.ret 11)else nz ab.Spacing ((bif (decide ((Int.tmod (IntKind.i64.wrap (2*ab.Length)) ab.Spacing)≠0))then some (Out.ret 1)else nz ab.Spacing ((C8 (IntKind.i64.wrap (Int.tdiv (IntKind.i64.wrap (2*ab.Length)) ab.Spacing)) 1 200).bind fun ee=>(bif (!ee)then some (Out.ret 1)else some (Out.next ()))))))))
def P1 (m:Av) (k0:Nat) (ab:Ck) (sv:Unit):Option (Out (Unit) (Int)):=
 (C8 ab.ID 1 9999).bind fun y3=>(bif (!y3)then some (Out.ret 2)else (C8 ab.Operator 1 8).bind fun y4=>(bif (!y4)then some (Out.ret 2)else (C8 ab.Length 10 6000).bind fun y5=>(bif (!y5)then some (Out.ret 2)else (C8 ab.Speed 500 12000).bind fun y6=>(bif (!y6)then some (Out.ret 2)else (C8 ab.Seats 1 16).bind fun y7=>(bif (!y7)then some (Out.ret 2)else (C8 ab.Spacing 5 1000).bind fun y8=>(bif (!y8)then some (Out.ret 2)else (bif (decide (0<((k0:Nat):Int)))then (Da m.Lifts (IntKind.i64.wrap (((k0:Nat):Int) - 1))).bind fun im=>(bif (decide (ab.ID≤im.ID))then some (Out.ret 7)else Gl m ab)else Gl m ab)))))))
def Nm (m:Av):Option (Int):=
 (Al (P1 m) 0 m.Lifts ()).bind fun o0=>o0.on fun s0=>some 0
theorem V7 (m:Av) {r:Int} (h:Nm m=some r):Ad Tryz.prog 154 [.agg (Be m)] (·= .int .i64 r):=by
 refine Ad.nle (Ad.intro Tryz.func154 rfl rfl (by show _≤108;simp) ?_)
 unfold Nm at h
 refine nS (sq ?_)
 refine B5 rfl ?_
 refine rg rfl fun K j=>?_
 intro hm
 refine j _ _ (qn (bk ?_))
 obtain⟨o0,aa,ae⟩:=Ae h
 clear h
 refine AWP.Bh aa () (fun zz=>[(1,.ptr 0 0),(10,.sl 8 (m.Lifts.map Bl)),(11,.int .i64 ((m.Lifts.length:Nat):Int)),(12,.int .i64 ((zz.1:Nat):Int))]) (fun zz=>[.box (Be m)]) ?_
 rintro k0 ⟨⟩ ⟨⟩ bb aa
 dsimp only
 refine Cy rfl ?_
 refine cD rfl ?_ ?_<;>intro hc
 ·obtain rfl:=fnD aa hc
  have h:=Ao ae;try dsimp only at h
  have af:=leD bb hc
  subst af
  refine Cr rfl ?_
  cases h;exact en Tryz.results154
 obtain⟨ab,b0,ag,bh,ao,h,aa⟩:=fcD aa hc
 have ay:=wk (k:=k0) (by omega)
 unfold P1 at h;try dsimp only at h
 refine gw9 (rG rfl fun K j=>?_)
 refine A1.of (f:=Bl) (l:=m.Lifts) ao ?_
 refine nS ?_
 refine j (sq (rG rfl fun K j=>?_))
 obtain⟨y3,bu,h⟩:=Ae h
 refine Ah.pure Tryz.call238 (Cp ab.ID 1 9999 bu) rfl fun _ hr=>?_
 subst hr
 refine nS ?_
 refine gF' h ?_ ?_<;>intro hc h
 ·refine j (ct rfl (Cd rfl ?_))
  cases x0 h aa ae;exact en Tryz.results154
 obtain⟨y4,ch,h⟩:=Ae h
 refine Ah.pure Tryz.call238 (Cp ab.Operator 1 8 ch) rfl fun _ hr=>?_
 subst hr
 refine nS ?_
 refine gF' h ?_ ?_<;>intro hc h
 ·refine j (ct rfl (Cd rfl ?_))
  cases x0 h aa ae;exact en Tryz.results154
 obtain⟨y5,cw,h⟩:=Ae h
 refine Ah.pure Tryz.call238 (Cp ab.Length 10 6000 cw) rfl fun _ hr=>?_
 subst hr
 refine nS ?_
 refine gF' h ?_ ?_<;>intro hc h
 ·refine j (ct rfl (Cd rfl ?_))
  cases x0 h aa ae;exact en Tryz.results154
 obtain⟨y6,ec,h⟩:=Ae h
 refine Ah.pure Tryz.call238 (Cp ab.Speed 500 12000 ec) rfl fun _ hr=>?_
 subst hr
 refine nS ?_
 refine gF' h ?_ ?_<;>intro hc h
 ·refine j (ct rfl (Cd rfl ?_))
  cases x0 h aa ae;exact en Tryz.results154
 obtain⟨y7,eg,h⟩:=Ae h
 refine Ah.pure Tryz.call238 (Cp ab.Seats 1 16 eg) rfl fun _ hr=>?_
 subst hr
 refine nS ?_
 refine gF' h ?_ ?_<;>intro hc h
 ·refine j (ct rfl (Cd rfl ?_))
  cases x0 h aa ae;exact en Tryz.results154
 obtain⟨y8,ej,h⟩:=Ae h
 refine Ah.pure Tryz.call238 (Cp ab.Spacing 5 1000 ej) rfl fun _ hr=>?_
 subst hr
 refine nS ?_
 refine j (cA h rfl ?_ ?_)<;>intro hc h
 ·refine Cd rfl ?_
  cases x0 h aa ae;exact en Tryz.results154
 refine Co ?_
 refine AWP.Ek (ι:=(Unit)×(Unit)) (fun zz=>[(1,.ptr 0 0),(4,.ptr 1 0),(10,.sl 8 (m.Lifts.map Bl)),(11,.int .i64 ((m.Lifts.length:Nat):Int)),(12,.int .i64 ((k0:Nat):Int))]) (fun zz=>[.box (Be m),.box (Bl ab)]) (fun zz=>Gl m ab=some b0) (fun zz=>⟨rfl,rfl,rfl⟩) ?_ ?_
 ·refine sq (dR Tryz.mixed fun K j=>?_)
  refine nS ?_
  refine gT h ?_ ?_<;>intro hc h
  ·obtain⟨im,qz,h⟩:=Ae h
   refine A1.of (f:=Bl) (l:=m.Lifts) qz ?_
   refine nS ?_
   refine j _ _ _ (by kernel_rfl) (qn (cA h rfl ?_ ?_))<;>intro hc h
   ·refine Cd rfl ?_
    cases x0 h aa ae;exact en Tryz.results154
   refine Co ?_
   exact⟨((),()),h,cu,cu⟩
  refine j _ _ _ (by kernel_rfl) (qn (cf rfl (Co ?_)))
  exact⟨((),()),h,cu,cu⟩
 rintro⟨⟨⟩,⟨⟩⟩ h
 try dsimp only at h ⊢
 unfold Gl at h;try dsimp only at h
 refine rG rfl fun K j=>?_
 obtain⟨cr,dq,h⟩:=Ae h
 refine Ah.pure Tryz.call96 (Dz m ab.From dq) rfl fun _ hr=>?_
 subst hr
 refine nS ?_
 refine j (rG rfl fun K j=>?_)
 obtain⟨dz,ff,h⟩:=Ae h
 refine Ah.pure Tryz.call96 (Dz m ab.To ff) rfl fun _ hr=>?_
 subst hr
 refine nS ?_
 refine j (sq (rG rfl fun K j=>?_))
 refine gF' h ?_ ?_<;>intro hc h
 ·refine j (ct rfl (Cd rfl ?_))
  cases x0 h aa ae;exact en Tryz.results154
 refine j (cA h rfl ?_ ?_)<;>intro hc h
 ·refine Cd rfl ?_
  cases x0 h aa ae;exact en Tryz.results154
 refine gw6 (B8 rfl ?_)
 refine cA h rfl ?_ ?_<;>intro hc h
 ·refine Cd rfl ?_
  cases x0 h aa ae;exact en Tryz.results154
 refine Co (rG rfl fun K j=>?_)
 obtain⟨hk,h⟩:=pG h
 refine⟨hk,?_⟩
 refine gF h ?_ ?_<;>intro hc h
 ·obtain⟨hk,h⟩:=pG h
  refine⟨hk,?_⟩
  obtain⟨ee,fw,h⟩:=Ae h
  refine Ah.pure Tryz.call238 (Cp (IntKind.i64.wrap (Int.tdiv (IntKind.i64.wrap (2*ab.Length)) ab.Spacing)) 1 200 fw) rfl fun _ hr=>?_
  subst hr
  refine nS ?_
  refine j (cA h rfl ?_ ?_)<;>intro hc h
  ·refine Cs rfl ?_
   cases x0 h aa ae;exact en Tryz.results154
  refine gw5 rfl ?_
  refine lE ag aa h () ?_ ?_<;>exact cuw ay
 refine j (ct rfl (Cs rfl ?_))
 cases x0 h aa ae;exact en Tryz.results154
def Rc (m:Av) (k0:Nat) (ab:Cn) (sv:Unit):Option (Out (Unit) (Int)):=
 (C8 ab.ID 1 9999).bind fun y3=>(bif (!y3)then some (Out.ret 2)else (C8 ab.Operator 1 8).bind fun y4=>(bif (!y4)then some (Out.ret 2)else (C8 ab.Grade 1 4).bind fun y5=>(bif (!y5)then some (Out.ret 2)else (C8 ab.Zone 1 32).bind fun y6=>(bif (!y6)then some (Out.ret 2)else (C8 ab.Length 10 20000).bind fun y7=>(bif (!y7)then some (Out.ret 2)else (bif (decide (0<((k0:Nat):Int)))then (Da m.Runs (IntKind.i64.wrap (((k0:Nat):Int) - 1))).bind fun dr=>(bif (decide (ab.ID≤dr.ID))then some (Out.ret 7)else (Ef m ab.From).bind fun y9=>(Ef m ab.To).bind fun cr=>(bif (!y9.2)then some (Out.ret 8)else (bif (!cr.2)then some (Out.ret 8)else (bif (decide (y9.1.Alt≤cr.1.Alt))then some (Out.ret 11)else some (Out.next ())))))else (Ef m ab.From).bind fun dz=>(Ef m ab.To).bind fun ee=>(bif (!dz.2)then some (Out.ret 8)else (bif (!ee.2)then some (Out.ret 8)else (bif (decide (dz.1.Alt≤ee.1.Alt))then some (Out.ret 11)else some (Out.next ()))))))))))
def Oj (m:Av):Option (Int):=
 (Al (Rc m) 0 m.Runs ()).bind fun o0=>o0.on fun s0=>some 0
theorem Wy (m:Av) {r:Int} (h:Oj m=some r):Ad Tryz.prog 155 [.agg (Be m)] (·= .int .i64 r):=by
 refine Ad.nle (Ad.intro Tryz.func155 rfl rfl (by show _≤85;simp) ?_)
 unfold Oj at h
 refine nS (sq ?_)
 refine B5 rfl ?_
 refine rg rfl fun K j=>?_
 intro hm
 refine j _ _ (qn (bk ?_))
 obtain⟨o0,aa,ae⟩:=Ae h
 clear h
 refine AWP.Bh aa () (fun zz=>[(1,.ptr 0 0),(10,.sl 7 (m.Runs.map Bj)),(11,.int .i64 ((m.Runs.length:Nat):Int)),(12,.int .i64 ((zz.1:Nat):Int))]) (fun zz=>[.box (Be m)]) ?_
 rintro k0 ⟨⟩ ⟨⟩ bb aa
 dsimp only
 refine Cy rfl ?_
 refine cD rfl ?_ ?_<;>intro hc
 ·obtain rfl:=fnD aa hc
  have h:=Ao ae;try dsimp only at h
  have af:=leD bb hc
  subst af
  refine Cr rfl ?_
  cases h;exact en Tryz.results155
 obtain⟨ab,b0,ag,bh,ao,h,aa⟩:=fcD aa hc
 have ay:=wk (k:=k0) (by omega)
 unfold Rc at h;try dsimp only at h
 refine gw9 (rG rfl fun K j=>?_)
 refine A1.of (f:=Bj) (l:=m.Runs) ao ?_
 refine nS ?_
 refine j (sq (rG rfl fun K j=>?_))
 obtain⟨y3,bu,h⟩:=Ae h
 refine Ah.pure Tryz.call238 (Cp ab.ID 1 9999 bu) rfl fun _ hr=>?_
 subst hr
 refine nS ?_
 refine gF' h ?_ ?_<;>intro hc h
 ·refine j (ct rfl (Cd rfl ?_))
  cases x0 h aa ae;exact en Tryz.results155
 obtain⟨y4,ch,h⟩:=Ae h
 refine Ah.pure Tryz.call238 (Cp ab.Operator 1 8 ch) rfl fun _ hr=>?_
 subst hr
 refine nS ?_
 refine gF' h ?_ ?_<;>intro hc h
 ·refine j (ct rfl (Cd rfl ?_))
  cases x0 h aa ae;exact en Tryz.results155
 obtain⟨y5,cw,h⟩:=Ae h
 refine Ah.pure Tryz.call238 (Cp ab.Grade 1 4 cw) rfl fun _ hr=>?_
 subst hr
 refine nS ?_
 refine gF' h ?_ ?_<;>intro hc h
 ·refine j (ct rfl (Cd rfl ?_))
  cases x0 h aa ae;exact en Tryz.results155
 obtain⟨y6,ec,h⟩:=Ae h
 refine Ah.pure Tryz.call238 (Cp ab.Zone 1 32 ec) rfl fun _ hr=>?_
 subst hr
 refine nS ?_
 refine gF' h ?_ ?_<;>intro hc h
 ·refine j (ct rfl (Cd rfl ?_))
  cases x0 h aa ae;exact en Tryz.results155
 obtain⟨y7,eg,h⟩:=Ae h
 refine Ah.pure Tryz.call238 (Cp ab.Length 10 20000 eg) rfl fun _ hr=>?_
 subst hr
 refine nS ?_
 refine j (cA h rfl ?_ ?_)<;>intro hc h
 ·refine Cd rfl ?_
  cases x0 h aa ae;exact en Tryz.results155
 refine gw6 (sq (dR Tryz.mixed fun K j=>?_))
 refine nS ?_
 refine gT h ?_ ?_<;>intro hc h
 ·obtain⟨dr,nb,h⟩:=Ae h
  refine A1.of (f:=Bj) (l:=m.Runs) nb ?_
  refine nS ?_
  refine j _ _ _ (by kernel_rfl) (qn (cA h rfl ?_ ?_))<;>intro hc h
  ·refine Cd rfl ?_
   cases x0 h aa ae;exact en Tryz.results155
  refine Co (rG rfl fun K j=>?_)
  obtain⟨y9,fu,h⟩:=Ae h
  refine Ah.pure Tryz.call96 (Dz m ab.From fu) rfl fun _ hr=>?_
  subst hr
  refine nS ?_
  refine j (rG rfl fun K j=>?_)
  obtain⟨cr,dq,h⟩:=Ae h
  refine Ah.pure Tryz.call96 (Dz m ab.To dq) rfl fun _ hr=>?_
  subst hr
  refine nS ?_
  refine j (sq (rG rfl fun K j=>?_))
  refine gF h ?_ ?_<;>intro hc h
  ·refine j (cA h rfl ?_ ?_)<;>intro hc h
   ·refine Cd rfl ?_
    cases x0 h aa ae;exact en Tryz.results155
   refine Co (B8 rfl ?_)
   refine cA h rfl ?_ ?_<;>intro hc h
   ·refine Cs rfl ?_
    cases x0 h aa ae;exact en Tryz.results155
   refine gw5 rfl ?_
   refine lE ag aa h () ?_ ?_<;>exact cuw ay
  refine j (ct rfl (Cd rfl ?_))
  cases x0 h aa ae;exact en Tryz.results155
 refine j _ _ _ (by kernel_rfl) (qn (cf rfl (Co (rG rfl fun K j=>?_))))
 obtain⟨dz,ff,h⟩:=Ae h
 refine Ah.pure Tryz.call96 (Dz m ab.From ff) rfl fun _ hr=>?_
 subst hr
 refine nS ?_
 refine j (rG rfl fun K j=>?_)
 obtain⟨ee,fw,h⟩:=Ae h
 refine Ah.pure Tryz.call96 (Dz m ab.To fw) rfl fun _ hr=>?_
 subst hr
 refine nS ?_
 refine j (sq (rG rfl fun K j=>?_))
 refine gF h ?_ ?_<;>intro hc h
 ·refine j (cA h rfl ?_ ?_)<;>intro hc h
  ·refine Cd rfl ?_
   cases x0 h aa ae;exact en Tryz.results155
  refine Co (B8 rfl ?_)
  refine cA h rfl ?_ ?_<;>intro hc h
  ·refine Cs rfl ?_
   cases x0 h aa ae;exact en Tryz.results155
  refine gw5 rfl ?_
  refine lE ag aa h () ?_ ?_<;>exact cuw ay
 refine j (ct rfl (Cd rfl ?_))
 cases x0 h aa ae;exact en Tryz.results155
def P3 (m:Av) (k1:Nat) (ak:Int) (sv:Unit):Option (Out (Unit) (Int)):=
 (bif (decide (0<((k1:Nat):Int)))then (Da m.Bases (IntKind.i64.wrap (((k1:Nat):Int) - 1))).bind fun aw=>(bif (decide (ak≤aw))then some (Out.ret 7)else some (Out.next ()))else some (Out.next ()))
def Jy (m:Av):Option (Int):=
 (Al (P3 m) 0 m.Bases ()).bind fun o1=>o1.on fun s1=>some 0
def P2 (m:Av) (k4:Nat) (cp:Int) (sv:Unit):Option (Out (Unit) (Int)):=
 (Ef m cp).bind fun y7=>(bif (!y7.2)then some (Out.ret 8)else some (Out.next ()))
def Nn (m:Av):Option (Int):=
 (bif (decide (((m.Bases.length:Nat):Int)=0))then some 8 else(Al (P2 m) 0 m.Bases ()).bind fun o4=>o4.on fun s4=>Jy m)
theorem V8 (m:Av) {r:Int} (h:Nn m=some r):Ad Tryz.prog 156 [.agg (Be m)] (·= .int .i64 r):=by
 refine Ad.nle (Ad.intro Tryz.func156 rfl rfl (by show _≤50;simp) ?_)
 unfold Nn at h
 refine nS (sq ?_)
 refine B5 rfl ?_
 refine rg rfl fun K j=>?_
 intro hm
 refine j _ _ (qn (cA h rfl ?_ ?_))<;>intro hc h
 ·refine gw8 rfl ?_
  cases h;exact en Tryz.results156
 refine Co ?_
 refine AWP.Ek (ι:=(Unit)×(Unit)) (fun zz=>[(1,.ptr 0 0)]) (fun zz=>[.box (Be m)]) (fun zz=>Jy m=some r) (fun zz=>⟨rfl,rfl,rfl⟩) ?_ ?_
 ·refine rG rfl fun K j=>?_
  intro hm
  refine j (bk ?_)
  obtain⟨o4,ck,jl⟩:=Ae h
  clear h
  refine AWP.Bh ck () (fun zz=>[(1,.ptr 0 0),(14,.sl 1 (m.Bases.map An)),(15,.int .i64 ((m.Bases.length:Nat):Int)),(16,.int .i64 ((zz.1:Nat):Int))]) (fun zz=>[.box (Be m)]) ?_
  rintro k4 ⟨⟩ ⟨⟩ oy ck
  dsimp only
  refine Cy rfl ?_
  refine cD rfl ?_ ?_<;>intro hc
  ·obtain rfl:=fnD ck hc
   have h:=Ao jl;try dsimp only at h
   have af:=leD oy hc
   subst af
   refine gw4 ?_
   exact⟨((),()),h,cu,cu⟩
  obtain⟨cp,b4,gj,re,qb,h,ck⟩:=fcD ck hc
  have kf:=wk (k:=k4) (by omega)
  unfold P2 at h;try dsimp only at h
  refine gw9 (rG rfl fun K j=>?_)
  refine A1.of (f:=An) (l:=m.Bases) qb ?_
  refine nS ?_
  refine j (rG rfl fun K j=>?_)
  obtain⟨y7,eg,h⟩:=Ae h
  refine Ah.pure Tryz.call96 (Dz m cp eg) rfl fun _ hr=>?_
  subst hr
  refine nS ?_
  refine j (B8 rfl ?_)
  refine cA h rfl ?_ ?_<;>intro hc h
  ·refine Cs rfl ?_
   cases x0 h ck jl;exact en Tryz.results156
  refine gw5 rfl ?_
  refine lE gj ck h () ?_ ?_<;>exact cuw kf
 rintro⟨⟨⟩,⟨⟩⟩ h
 try dsimp only at h ⊢
 unfold Jy at h;try dsimp only at h
 refine sq (rG rfl fun K j=>?_)
 intro hm
 refine j (bk ?_)
 obtain⟨o1,aq,db⟩:=Ae h
 clear h
 refine AWP.Bh aq () (fun zz=>[(1,.ptr 0 0),(30,.sl 1 (m.Bases.map An)),(31,.int .i64 ((m.Bases.length:Nat):Int)),(32,.int .i64 ((zz.1:Nat):Int))]) (fun zz=>[.box (Be m)]) ?_
 rintro k1 ⟨⟩ ⟨⟩ ga aq
 dsimp only
 refine Cy rfl ?_
 refine cD rfl ?_ ?_<;>intro hc
 ·obtain rfl:=fnD aq hc
  have h:=Ao db;try dsimp only at h
  have af:=leD ga hc
  subst af
  refine Cr rfl ?_
  cases h;exact en Tryz.results156
 obtain⟨ak,b1,bl,fx,fk,h,aq⟩:=fcD aq hc
 have cz:=wk (k:=k1) (by omega)
 unfold P3 at h;try dsimp only at h
 refine gw9 (rG rfl fun K j=>?_)
 refine A1.of (f:=An) (l:=m.Bases) fk ?_
 refine nS ?_
 refine j (rG rfl fun K j=>?_)
 refine gT h ?_ ?_<;>intro hc h
 ·obtain⟨aw,fg,h⟩:=Ae h
  refine A1.of (f:=An) (l:=m.Bases) fg ?_
  refine nS ?_
  refine j (cA h rfl ?_ ?_)<;>intro hc h
  ·refine Cs rfl ?_
   cases x0 h aq db;exact en Tryz.results156
  refine gw5 rfl ?_
  refine lE bl aq h () ?_ ?_<;>exact cuw cz
 refine j (cf rfl (gw5 rfl ?_))
 refine lE bl aq h () ?_ ?_<;>exact cuw cz
def Mq (m:Av):Option (Int):=
 (bif (decide (64<((m.Nodes.length:Nat):Int)))then some 4 else(bif (decide (32<((m.Lifts.length:Nat):Int)))then some 4 else(bif (decide (64<((m.Runs.length:Nat):Int)))then some 4 else(bif (decide (64<((m.Bases.length:Nat):Int)))then some 4 else(Nl m).bind fun y1=>(bif (decide (y1≠0))then some y1 else(Nm m).bind fun y2=>(bif (decide (y2≠0))then some y2 else(Oj m).bind fun y3=>(bif (decide (y3≠0))then some y3 else(Nn m).bind fun y4=>some y4)))))))
theorem bW (m:Av) {r:Int} (h:Mq m=some r):Ad Tryz.prog 74 [.agg (Be m)] (·= .int .i64 r):=by
 refine Ad.nle (Ad.intro Tryz.func74 rfl rfl (by show _≤45;simp) ?_)
 unfold Mq at h
 refine nS (sq ?_)
 refine B5 rfl ?_
 refine rg rfl fun K j=>?_
 intro hm
 refine gF' h ?_ ?_<;>intro hc h
 ·refine j _ _ (qn (ct rfl (gw8 rfl ?_)))
  cases h;exact en Tryz.results74
 intro hm
 refine gF' h ?_ ?_<;>intro hc h
 ·refine j _ _ (qn (ct rfl (gw8 rfl ?_)))
  cases h;exact en Tryz.results74
 intro hm
 refine gF' h ?_ ?_<;>intro hc h
 ·refine j _ _ (qn (ct rfl (gw8 rfl ?_)))
  cases h;exact en Tryz.results74
 intro hm
 refine j _ _ (qn (cA h rfl ?_ ?_))<;>intro hc h
 ·refine gw8 rfl ?_
  cases h;exact en Tryz.results74
 refine gw6 (rG rfl fun K j=>?_)
 obtain⟨y1,bp,h⟩:=Ae h
 refine Ah.pure Tryz.call153 (V6 m bp) rfl fun _ hr=>?_
 subst hr
 refine nS ?_
 refine j (B8 rfl ?_)
 refine cA h rfl ?_ ?_<;>intro hc h
 ·refine gw8 rfl ?_
  cases h;exact en Tryz.results74
 refine gw6 (rG rfl fun K j=>?_)
 obtain⟨y2,cx,h⟩:=Ae h
 refine Ah.pure Tryz.call154 (V7 m cx) rfl fun _ hr=>?_
 subst hr
 refine nS ?_
 refine j (B8 rfl ?_)
 refine cA h rfl ?_ ?_<;>intro hc h
 ·refine gw8 rfl ?_
  cases h;exact en Tryz.results74
 refine gw6 (rG rfl fun K j=>?_)
 obtain⟨y3,bu,h⟩:=Ae h
 refine Ah.pure Tryz.call155 (Wy m bu) rfl fun _ hr=>?_
 subst hr
 refine nS ?_
 refine j (B8 rfl ?_)
 refine cA h rfl ?_ ?_<;>intro hc h
 ·refine gw8 rfl ?_
  cases h;exact en Tryz.results74
 refine Co (rG rfl fun K j=>?_)
 obtain⟨y4,ch,h⟩:=Ae h
 refine Ah.pure Tryz.call156 (V8 m ch) rfl fun _ hr=>?_
 subst hr
 refine nS ?_
 refine j (rt ?_)
 cases h;exact en Tryz.results74
def Nh (c:Bb):Option (Bool):=
 (bif (decide (1≤c.Kind))then (bif (decide (c.Kind≤3))then (bif (decide (1≤c.Target))then (bif (decide (c.Target≤9999))then (bif (decide (1≤c.By))then (bif (decide (c.By≤6))then (bif (decide (0≤c.Since))then some (decide (c.Since≤20000000))else some false)else some false)else some false)else some false)else some false)else some false)else some false)
theorem Zo (c:Bb) {r:Bool} (h:Nh c=some r):Ad Tryz.prog 157 [.agg (Ay c)] (·= .bool r):=by
 refine Ad.nle (Ad.intro Tryz.func157 rfl rfl (by show _≤41;simp) ?_)
 unfold Nh at h
 refine nS (sq ?_)
 refine gw7 rfl ?_
 refine rg rfl fun K j=>?_
 refine gT' h ?_ ?_<;>intro hc h
 ·refine j _ _ (Cu ?_)
  cases h;exact en Tryz.results157
 refine gT' h ?_ ?_<;>intro hc h
 ·refine j _ _ (Cu ?_)
  cases h;exact en Tryz.results157
 refine gT h ?_ ?_<;>intro hc h
 ·refine gT h ?_ ?_<;>intro hc h
  ·refine gT h ?_ ?_<;>intro hc h
   ·refine gT h ?_ ?_<;>intro hc h
    ·refine gT h ?_ ?_<;>intro hc h
     ·refine j _ _ (Cu ?_)
      cases h;exact en Tryz.results157
     refine j _ _ (Cu ?_)
     cases h;exact en Tryz.results157
    refine j _ _ (Cu ?_)
    cases h;exact en Tryz.results157
   refine j _ _ (Cu ?_)
   cases h;exact en Tryz.results157
  refine j _ _ (Cu ?_)
  cases h;exact en Tryz.results157
 refine j _ _ (Cu ?_)
 cases h;exact en Tryz.results157
def Jx (c:Bb):Option (Ny):=
 some (Ny.mk c.Kind c.Target c.By)
theorem Uf (c:Bb) {r:Ny} (h:Jx c=some r):Ad Tryz.prog 159 [.agg (Ay c)] (·= .agg (Q8 r)):=by
 refine Ad.nle (Ad.intro Tryz.func159 rfl rfl (by show _≤10;simp) ?_)
 unfold Jx at h
 refine nS (sq ?_)
 refine gw7 rfl ?_
 refine ar rfl (Cu ?_)
 cases h;exact en Tryz.results159
def Ni (k_:Ny) (k0:Nat) (ab:Bb) (sv:Unit):Option (Out (Unit) (Int)):=
 (Jx ab).bind fun y3=>(bif ((decide (y3.kind=k_.kind))&&((decide (y3.target=k_.target))&&(decide (y3.by_=k_.by_))))then some (Out.ret ((k0:Nat):Int))else some (Out.next ()))
def Pu (l:List Bb) (k_:Ny):Option (Int):=
 (Al (Ni k_) 0 l ()).bind fun o0=>o0.on fun s0=>some (-1)
theorem eX (l:List Bb) (k_:Ny) {r:Int} (h:Pu l k_=some r):Ad Tryz.prog 158 [.sl 4 (l.map Ay),.agg (Q8 k_)] (·= .int .i64 r):=by
 refine Ad.nle (Ad.intro Tryz.func158 rfl rfl (by show _≤8;simp) ?_)
 unfold Pu at h
 refine nS (sq ?_)
 refine gw7 rfl ?_
 refine rg rfl fun K j=>?_
 refine Ah.inline Tryz.call239 Tryz.func239 rfl rfl (by show _≤19;simp) ?_
 refine nS (sq ?_)
 refine B5 rfl ?_
 refine rg rfl fun K j=>?_
 intro hm
 refine j _ _ (qn (bk ?_));clear j K
 obtain⟨o0,aa,ae⟩:=Ae h
 clear h
 refine AWP.Bh aa () (fun zz=>[(0,.sl 4 (l.map Ay)),(1,.func 240 [.ptr 0 0]),(7,.int .i64 ((l.length:Nat):Int)),(8,.int .i64 ((zz.1:Nat):Int))]) (fun zz=>[.box (Q8 k_)]) ?_
 rintro k0 ⟨⟩ ⟨⟩ bb aa
 dsimp only
 refine Cy rfl ?_
 refine cD rfl ?_ ?_<;>intro hc
 ·obtain rfl:=fnD aa hc
  have h:=Ao ae;try dsimp only at h
  have af:=leD bb hc
  subst af
  refine Cr rfl ?_
  refine nSc Tryz.results239 ?_
  refine j _ _ (Cu ?_)
  cases h;exact en Tryz.results158
 obtain⟨ab,b0,ag,bh,ao,h,aa⟩:=fcD aa hc
 have ay:=wk (k:=k0) (by omega)
 unfold Ni at h;try dsimp only at h
 refine gw9 (Cy rfl ?_)
 refine rg rfl fun K j=>?_
 refine A1.of (f:=Ay) (l:=l) ao ?_
 refine nS ?_
 refine Ah.inline Tryz.call240 Tryz.func240 rfl rfl (by show _≤8;simp) ?_
 refine nS (sq ?_)
 refine gw7 rfl ?_
 refine dR Tryz.mixed fun K j=>?_
 refine nS ?_
 obtain⟨y3,bu,h⟩:=Ae h
 refine Br.pure Tryz.call159 (Uf ab bu) rfl ?_
 refine nS ?_
 refine j _ _ _ (by kernel_rfl) ?_;clear j K
 refine qn (rt (nSc Tryz.results240 ?_))
 refine j _ _ (qn ?_);clear j K
 refine cA h rfl ?_ ?_<;>intro hc h
 ·refine gw1 rfl (br (qr (qr ?_)))
  replace h:=x0 h aa ae
  refine br (qr (nSc Tryz.results239 ?_))
  refine j _ _ (Cu ?_)
  cases h;exact en Tryz.results158
 refine gw5 rfl ?_
 refine lE ag aa h () ?_ ?_<;>exact cuw ay
def Qs (l:List Bb) (k0:Nat) (ab:Bb) (sv:Unit):Option (Out (Unit) (Int)):=
 (Nh ab).bind fun y3=>(bif (!y3)then some (Out.ret 2)else okB (decide (0≤((k0:Nat):Int)∧((k0:Nat):Int)≤((l.length:Nat):Int))) ((Jx ab).bind fun y4=>(Pu (l.take k0) y4).bind fun y5=>(bif (decide (0≤y5))then some (Out.ret 7)else some (Out.next ()))))
def M8 (l:List Bb):Option (Int):=
 (bif (decide (200<((l.length:Nat):Int)))then some 4 else(Al (Qs l) 0 l ()).bind fun o0=>o0.on fun s0=>some 0)
theorem c6 (l:List Bb) {r:Int} (h:M8 l=some r):Ad Tryz.prog 75 [.sl 4 (l.map Ay)] (·= .int .i64 r):=by
 refine Ad.nle (Ad.intro Tryz.func75 rfl rfl (by show _≤26;simp) ?_)
 unfold M8 at h
 refine nS (sq ?_)
 refine B5 rfl ?_
 refine rg rfl fun K j=>?_
 intro hm
 refine j _ _ (qn (cA h rfl ?_ ?_))<;>intro hc h
 ·refine gw8 rfl ?_
  cases h;exact en Tryz.results75
 refine gw6 (rG rfl fun K j=>?_)
 intro hm
 refine j (bk ?_)
 obtain⟨o0,aa,ae⟩:=Ae h
 clear h
 refine AWP.Bh aa () (fun zz=>[(0,.sl 4 (l.map Ay)),(8,.sl 4 (l.map Ay)),(9,.int .i64 ((l.length:Nat):Int)),(10,.int .i64 ((zz.1:Nat):Int))]) (fun zz=>[]) ?_
 rintro k0 ⟨⟩ ⟨⟩ bb aa
 dsimp only
 refine Cy rfl ?_
 refine cD rfl ?_ ?_<;>intro hc
 ·obtain rfl:=fnD aa hc
  have h:=Ao ae;try dsimp only at h
  have af:=leD bb hc
  subst af
  refine Cr rfl ?_
  cases h;exact en Tryz.results75
 obtain⟨ab,b0,ag,bh,ao,h,aa⟩:=fcD aa hc
 have ay:=wk (k:=k0) (by omega)
 unfold Qs at h;try dsimp only at h
 refine gw9 (rG rfl fun K j=>?_)
 refine A1.of (f:=Ay) (l:=l) ao ?_
 refine nS ?_
 refine j (sq (rG rfl fun K j=>?_))
 obtain⟨y3,bu,h⟩:=Ae h
 refine Ah.pure Tryz.call157 (Zo ab bu) rfl fun _ hr=>?_
 subst hr
 refine nS ?_
 refine j (cA h rfl ?_ ?_)<;>intro hc h
 ·refine Cd rfl ?_
  cases x0 h aa ae;exact en Tryz.results75
 refine gw6 (dR Tryz.mixed fun K j=>?_)
 refine nS ?_
 obtain⟨hk,h⟩:=Fv h
 intro hm
 (repeat(refine⟨by omega,?_⟩))
 obtain⟨y4,ch,h⟩:=Ae h
 refine Br.pure Tryz.call159 (Uf ab ch) rfl ?_
 refine nS ?_
 obtain⟨y5,cw,h⟩:=Ae h
 refine Br.pure Tryz.call158 (eX (l.take k0) y4 cw) rfl ?_
 refine nS ?_
 refine j _ _ _ (by kernel_rfl) (qn (cA h rfl ?_ ?_))<;>intro hc h
 ·refine Cs rfl ?_
  cases x0 h aa ae;exact en Tryz.results75
 refine gw5 rfl ?_
 refine lE ag aa h () ?_ ?_<;>exact cuw ay
def Qp (l:Ba) (k1:Nat) (ak:Fm) (sv:Unit):Option (Out (Unit) (Int)):=
 (Bo l.Items ak.Item).bind fun y4=>(bif (!y4)then some (Out.ret 8)else (bif (decide (ak.By<1))then some (Out.ret 17)else (bif (decide (9999<ak.By))then some (Out.ret 17)else (bif (decide (ak.At<0))then some (Out.ret 2)else (bif (decide (20000000<ak.At))then some (Out.ret 2)else (bif (decide (0<((k1:Nat):Int)))then (Da l.Signs (IntKind.i64.wrap (((k1:Nat):Int) - 1))).bind fun cm=>(bif (decide (ak.At<cm.At))then some (Out.ret 11)else some (Out.next ()))else some (Out.next ())))))))
def L3 (l:Ba):Option (Int):=
 (Al (Qp l) 0 l.Signs ()).bind fun o1=>o1.on fun s1=>some 0
def Qo (l:Ba) (k5:Nat) (du:Int) (sv:Unit):Option (Out (Unit) (Int)):=
 (bif (decide (du<1))then some (Out.ret 2)else (bif (decide (9999<du))then some (Out.ret 2)else okB (decide (0≤((k5:Nat):Int)∧((k5:Nat):Int)≤((l.Items.length:Nat):Int))) ((Bo (l.Items.take k5) du).bind fun y8=>(bif y8 then some (Out.ret 7)else some (Out.next ())))))
def Jw (l:Ba):Option (Int):=
 (bif (decide (64<((l.Items.length:Nat):Int)))then some 4 else(bif (decide (200<((l.Signs.length:Nat):Int)))then some 4 else(bif (decide (l.Every<1))then some 2 else(bif (decide (604800<l.Every))then some 2 else(Al (Qo l) 0 l.Items ()).bind fun o5=>o5.on fun s5=>L3 l))))
theorem T8 (l:Ba) {r:Int} (h:Jw l=some r):Ad Tryz.prog 160 [.agg (B4 l)] (·= .int .i64 r):=by
 refine Ad.nle (Ad.intro Tryz.func160 rfl rfl (by show _≤91;simp) ?_)
 unfold Jw at h
 refine nS (sq ?_)
 refine B5 rfl ?_
 refine rg rfl fun K j=>?_
 intro hm
 refine gF' h ?_ ?_<;>intro hc h
 ·refine j _ _ (qn (ct rfl (gw8 rfl ?_)))
  cases h;exact en Tryz.results160
 intro hm
 refine j _ _ (qn (cA h rfl ?_ ?_))<;>intro hc h
 ·refine gw8 rfl ?_
  cases h;exact en Tryz.results160
 refine gw6 (rG rfl fun K j=>?_)
 refine gF' h ?_ ?_<;>intro hc h
 ·refine j (ct rfl (gw8 rfl ?_))
  cases h;exact en Tryz.results160
 refine j (cA h rfl ?_ ?_)<;>intro hc h
 ·refine gw8 rfl ?_
  cases h;exact en Tryz.results160
 refine Co ?_
 refine AWP.Ek (ι:=(Unit)×(Unit)) (fun zz=>[(1,.ptr 0 0)]) (fun zz=>[.box (B4 l)]) (fun zz=>L3 l=some r) (fun zz=>⟨rfl,rfl,rfl⟩) ?_ ?_
 ·refine rG rfl fun K j=>?_
  intro hm
  refine j (bk ?_)
  obtain⟨o5,dp,mf⟩:=Ae h
  clear h
  refine AWP.Bh dp () (fun zz=>[(1,.ptr 0 0),(26,.sl 1 (l.Items.map An)),(27,.int .i64 ((l.Items.length:Nat):Int)),(28,.int .i64 ((zz.1:Nat):Int))]) (fun zz=>[.box (B4 l)]) ?_
  rintro k5 ⟨⟩ ⟨⟩ ud dp
  dsimp only
  refine Cy rfl ?_
  refine cD rfl ?_ ?_<;>intro hc
  ·obtain rfl:=fnD dp hc
   have h:=Ao mf;try dsimp only at h
   have af:=leD ud hc
   subst af
   refine gw4 ?_
   exact⟨((),()),h,cu,cu⟩
  obtain⟨du,b5,fh,xb,qa,h,dp⟩:=fcD dp hc
  have ko:=wk (k:=k5) (by omega)
  unfold Qo at h;try dsimp only at h
  refine gw9 (rG rfl fun K j=>?_)
  refine A1.of (f:=An) (l:=l.Items) qa ?_
  refine nS ?_
  refine j (sq (rG rfl fun K j=>?_))
  refine gF' h ?_ ?_<;>intro hc h
  ·refine j (ct rfl (Cd rfl ?_))
   cases x0 h dp mf;exact en Tryz.results160
  refine j (cA h rfl ?_ ?_)<;>intro hc h
  ·refine Cd rfl ?_
   cases x0 h dp mf;exact en Tryz.results160
  refine Co (rG rfl fun K j=>?_)
  obtain⟨hk,h⟩:=Fv h
  intro hm
  (repeat(refine⟨by omega,?_⟩))
  obtain⟨y8,ej,h⟩:=Ae h
  refine Ah.pure Tryz.call54 (Bt (l.Items.take k5) du ej) rfl fun _ hr=>?_
  subst hr
  refine nS ?_
  refine j (cA h rfl ?_ ?_)<;>intro hc h
  ·refine Cs rfl ?_
   cases x0 h dp mf;exact en Tryz.results160
  refine gw5 rfl ?_
  refine lE fh dp h () ?_ ?_<;>exact cuw ko
 rintro⟨⟨⟩,⟨⟩⟩ h
 try dsimp only at h ⊢
 unfold L3 at h;try dsimp only at h
 refine sq (rG rfl fun K j=>?_)
 intro hm
 refine j (bk ?_)
 obtain⟨o1,aq,db⟩:=Ae h
 clear h
 refine AWP.Bh aq () (fun zz=>[(1,.ptr 0 0),(47,.sl 3 (l.Signs.map Cw)),(48,.int .i64 ((l.Signs.length:Nat):Int)),(49,.int .i64 ((zz.1:Nat):Int))]) (fun zz=>[.box (B4 l)]) ?_
 rintro k1 ⟨⟩ ⟨⟩ ga aq
 dsimp only
 refine Cy rfl ?_
 refine cD rfl ?_ ?_<;>intro hc
 ·obtain rfl:=fnD aq hc
  have h:=Ao db;try dsimp only at h
  have af:=leD ga hc
  subst af
  refine Cr rfl ?_
  cases h;exact en Tryz.results160
 obtain⟨ak,b1,bl,fx,fk,h,aq⟩:=fcD aq hc
 have cz:=wk (k:=k1) (by omega)
 unfold Qp at h;try dsimp only at h
 refine gw9 (rG rfl fun K j=>?_)
 refine A1.of (f:=Cw) (l:=l.Signs) fk ?_
 refine nS ?_
 refine j (sq (rG rfl fun K j=>?_))
 obtain⟨y4,ch,h⟩:=Ae h
 refine Ah.pure Tryz.call54 (Bt l.Items ak.Item ch) rfl fun _ hr=>?_
 subst hr
 refine nS ?_
 refine j (cA h rfl ?_ ?_)<;>intro hc h
 ·refine Cd rfl ?_
  cases x0 h aq db;exact en Tryz.results160
 refine gw6 (rG rfl fun K j=>?_)
 refine gF' h ?_ ?_<;>intro hc h
 ·refine j (ct rfl (Cd rfl ?_))
  cases x0 h aq db;exact en Tryz.results160
 refine j (cA h rfl ?_ ?_)<;>intro hc h
 ·refine Cd rfl ?_
  cases x0 h aq db;exact en Tryz.results160
 refine gw6 (rG rfl fun K j=>?_)
 refine gF' h ?_ ?_<;>intro hc h
 ·refine j (ct rfl (Cd rfl ?_))
  cases x0 h aq db;exact en Tryz.results160
 refine j (cA h rfl ?_ ?_)<;>intro hc h
 ·refine Cd rfl ?_
  cases x0 h aq db;exact en Tryz.results160
 refine gw6 (dR Tryz.mixed fun K j=>?_)
 refine nS ?_
 refine gT h ?_ ?_<;>intro hc h
 ·obtain⟨cm,iu,h⟩:=Ae h
  refine A1.of (f:=Cw) (l:=l.Signs) iu ?_
  refine nS ?_
  refine j _ _ _ (by kernel_rfl) (qn (cA h rfl ?_ ?_))<;>intro hc h
  ·refine Cs rfl ?_
   cases x0 h aq db;exact en Tryz.results160
  refine gw5 rfl ?_
  refine lE bl aq h () ?_ ?_<;>exact cuw cz
 refine j _ _ _ (by kernel_rfl) (qn (cf rfl (gw5 rfl ?_)))
 refine lE bl aq h () ?_ ?_<;>exact cuw cz
def H4 (id_:Int) (k0:Nat) (ab:C5) (sv:Unit):Option (Out (Unit) (Int)):=
 (bif (decide (ab.ID=id_))then some (Out.ret ((k0:Nat):Int))else some (Out.next ()))
def M5 (l:List C5) (id_:Int):Option (Int):=
 (Al (H4 id_) 0 l ()).bind fun o0=>o0.on fun s0=>some (-1)
theorem cO (l:List C5) (id_:Int) {r:Int} (h:M5 l id_=some r):Ad Tryz.prog 161 [.sl 3 (l.map Bg),.int .i64 id_] (·= .int .i64 r):=by
 refine Ad.nle (Ad.intro Tryz.func161 rfl rfl (by show _≤8;simp) ?_)
 unfold M5 at h
 refine nS (sq ?_)
 refine gw7 rfl ?_
 refine rg rfl fun K j=>?_
 refine Ah.inline Tryz.call241 Tryz.func241 rfl rfl (by show _≤19;simp) ?_
 refine nS (sq ?_)
 refine B5 rfl ?_
 refine rg rfl fun K j=>?_
 intro hm
 refine j _ _ (qn (bk ?_));clear j K
 obtain⟨o0,aa,ae⟩:=Ae h
 clear h
 refine AWP.Bh aa () (fun zz=>[(0,.sl 3 (l.map Bg)),(1,.func 242 [.ptr 0 0]),(7,.int .i64 ((l.length:Nat):Int)),(8,.int .i64 ((zz.1:Nat):Int))]) (fun zz=>[.box [.int .i64 id_]]) ?_
 rintro k0 ⟨⟩ ⟨⟩ bb aa
 dsimp only
 refine Cy rfl ?_
 refine cD rfl ?_ ?_<;>intro hc
 ·obtain rfl:=fnD aa hc
  have h:=Ao ae;try dsimp only at h
  have af:=leD bb hc
  subst af
  refine Cr rfl ?_
  refine nSc Tryz.results241 ?_
  refine j _ _ (Cu ?_)
  cases h;exact en Tryz.results161
 obtain⟨ab,b0,ag,bh,ao,h,aa⟩:=fcD aa hc
 have ay:=wk (k:=k0) (by omega)
 unfold H4 at h;try dsimp only at h
 refine gw9 (Cy rfl ?_)
 refine rg rfl fun K j=>?_
 refine A1.of (f:=Bg) (l:=l) ao ?_
 refine nS ?_
 refine Ah.inline Tryz.call242 Tryz.func242 rfl rfl (by show _≤8;simp) ?_
 refine nS (sq ?_)
 refine gw7 rfl ?_
 refine ar rfl (Cu ?_)
 refine nSc Tryz.results242 ?_
 refine j _ _ (qn ?_);clear j K
 refine cA h rfl ?_ ?_<;>intro hc h
 ·refine gw1 rfl (br (qr (qr ?_)))
  replace h:=x0 h aa ae
  refine br (qr (nSc Tryz.results241 ?_))
  refine j _ _ (Cu ?_)
  cases h;exact en Tryz.results161
 refine gw5 rfl ?_
 refine lE ag aa h () ?_ ?_<;>exact cuw ay
def Sc (p:Bk) (k1:Nat) (ak:C5) (sv:Unit):Option (Out (Unit) (Int)):=
 (bif (decide (ak.ID<1))then some (Out.ret 2)else (bif (decide (9999<ak.ID))then some (Out.ret 2)else (bif (decide (ak.At<0))then some (Out.ret 2)else (bif (decide (20000000<ak.At))then some (Out.ret 2)else okB (decide (0≤((k1:Nat):Int)∧((k1:Nat):Int)≤((p.Hazards.length:Nat):Int))) ((M5 (p.Hazards.take k1) ak.ID).bind fun y4=>(bif (decide (0≤y4))then some (Out.ret 7)else (K7 p ak.Run).bind fun y5=>(bif (decide (y5<0))then some (Out.ret 8)else some (Out.next ()))))))))
def Nc (p:Bk):Option (Int):=
 (Al (Sc p) 0 p.Hazards ()).bind fun o1=>o1.on fun s1=>some 0
def Sb (p:Bk) (k5:Nat) (du:Cg) (sv:Unit):Option (Out (Unit) (Int)):=
 (bif (decide (du.Run<1))then some (Out.ret 2)else (bif (decide (9999<du.Run))then some (Out.ret 2)else (bif (decide (0<((k5:Nat):Int)))then (Da p.Ci (IntKind.i64.wrap (((k5:Nat):Int) - 1))).bind fun dr=>(bif (decide (du.Run≤dr.Run))then some (Out.ret 11)else (Jw du.List_).bind fun y9=>(bif (decide (y9≠0))then some (Out.ret y9)else some (Out.next ())))else (Jw du.List_).bind fun cr=>(bif (decide (cr≠0))then some (Out.ret cr)else some (Out.next ())))))
def Pe (p:Bk):Option (Int):=
 (bif (decide (64<((p.Ci.length:Nat):Int)))then some 4 else(bif (decide (200<((p.Hazards.length:Nat):Int)))then some 4 else(Al (Sb p) 0 p.Ci ()).bind fun o5=>o5.on fun s5=>Nc p))
theorem eD (p:Bk) {r:Int} (h:Pe p=some r):Ad Tryz.prog 76 [.agg (Cf p)] (·= .int .i64 r):=by
 refine Ad.nle (Ad.intro Tryz.func76 rfl rfl (by show _≤95;simp) ?_)
 unfold Pe at h
 refine nS (sq ?_)
 refine B5 rfl ?_
 refine rg rfl fun K j=>?_
 intro hm
 refine gF' h ?_ ?_<;>intro hc h
 ·refine j _ _ (qn (ct rfl (gw8 rfl ?_)))
  cases h;exact en Tryz.results76
 intro hm
 refine j _ _ (qn (cA h rfl ?_ ?_))<;>intro hc h
 ·refine gw8 rfl ?_
  cases h;exact en Tryz.results76
 refine Co ?_
 refine AWP.Ek (ι:=(Unit)×(Unit)) (fun zz=>[(1,.ptr 0 0)]) (fun zz=>[.box (Cf p)]) (fun zz=>Nc p=some r) (fun zz=>⟨rfl,rfl,rfl⟩) ?_ ?_
 ·refine rG rfl fun K j=>?_
  intro hm
  refine j (bk ?_)
  obtain⟨o5,dp,mf⟩:=Ae h
  clear h
  refine AWP.Bh dp () (fun zz=>[(1,.ptr 0 0),(19,.sl 4 (p.Ci.map A3)),(20,.int .i64 ((p.Ci.length:Nat):Int)),(21,.int .i64 ((zz.1:Nat):Int))]) (fun zz=>[.box (Cf p)]) ?_
  rintro k5 ⟨⟩ ⟨⟩ ud dp
  dsimp only
  refine Cy rfl ?_
  refine cD rfl ?_ ?_<;>intro hc
  ·obtain rfl:=fnD dp hc
   have h:=Ao mf;try dsimp only at h
   have af:=leD ud hc
   subst af
   refine gw4 ?_
   exact⟨((),()),h,cu,cu⟩
  obtain⟨du,b5,fh,xb,qa,h,dp⟩:=fcD dp hc
  have ko:=wk (k:=k5) (by omega)
  unfold Sb at h;try dsimp only at h
  refine gw9 (rG rfl fun K j=>?_)
  refine A1.of (f:=A3) (l:=p.Ci) qa ?_
  refine nS ?_
  refine j (sq (rG rfl fun K j=>?_))
  refine gF' h ?_ ?_<;>intro hc h
  ·refine j (ct rfl (Cd rfl ?_))
   cases x0 h dp mf;exact en Tryz.results76
  refine j (cA h rfl ?_ ?_)<;>intro hc h
  ·refine Cd rfl ?_
   cases x0 h dp mf;exact en Tryz.results76
  refine gw6 (sq (dR Tryz.mixed fun K j=>?_))
  refine nS ?_
  refine gT h ?_ ?_<;>intro hc h
  ·obtain⟨dr,nb,h⟩:=Ae h
   refine A1.of (f:=A3) (l:=p.Ci) nb ?_
   refine nS ?_
   refine j _ _ _ (by kernel_rfl) (qn (cA h rfl ?_ ?_))<;>intro hc h
   ·refine Cd rfl ?_
    cases x0 h dp mf;exact en Tryz.results76
   refine Co (rG rfl fun K j=>?_)
   obtain⟨y9,fu,h⟩:=Ae h
   refine Ah.pure Tryz.call160 (T8 du.List_ fu) rfl fun _ hr=>?_
   subst hr
   refine nS ?_
   refine j (B8 rfl ?_)
   refine cA h rfl ?_ ?_<;>intro hc h
   ·refine Cs rfl ?_
    cases x0 h dp mf;exact en Tryz.results76
   refine gw5 rfl ?_
   refine lE fh dp h () ?_ ?_<;>exact cuw ko
  refine j _ _ _ (by kernel_rfl) (qn (cf rfl (Co (rG rfl fun K j=>?_))))
  obtain⟨cr,dq,h⟩:=Ae h
  refine Ah.pure Tryz.call160 (T8 du.List_ dq) rfl fun _ hr=>?_
  subst hr
  refine nS ?_
  refine j (B8 rfl ?_)
  refine cA h rfl ?_ ?_<;>intro hc h
  ·refine Cs rfl ?_
   cases x0 h dp mf;exact en Tryz.results76
  refine gw5 rfl ?_
  refine lE fh dp h () ?_ ?_<;>exact cuw ko
 rintro⟨⟨⟩,⟨⟩⟩ h
 try dsimp only at h ⊢
 unfold Nc at h;try dsimp only at h
 refine sq (rG rfl fun K j=>?_)
 intro hm
 refine j (bk ?_)
 obtain⟨o1,aq,db⟩:=Ae h
 clear h
 refine AWP.Bh aq () (fun zz=>[(1,.ptr 0 0),(56,.sl 3 (p.Hazards.map Bg)),(57,.int .i64 ((p.Hazards.length:Nat):Int)),(58,.int .i64 ((zz.1:Nat):Int))]) (fun zz=>[.box (Cf p)]) ?_
 rintro k1 ⟨⟩ ⟨⟩ ga aq
 dsimp only
 refine Cy rfl ?_
 refine cD rfl ?_ ?_<;>intro hc
 ·obtain rfl:=fnD aq hc
  have h:=Ao db;try dsimp only at h
  have af:=leD ga hc
  subst af
  refine Cr rfl ?_
  cases h;exact en Tryz.results76
 obtain⟨ak,b1,bl,fx,fk,h,aq⟩:=fcD aq hc
 have cz:=wk (k:=k1) (by omega)
 unfold Sc at h;try dsimp only at h
 refine gw9 (rG rfl fun K j=>?_)
 refine A1.of (f:=Bg) (l:=p.Hazards) fk ?_
 refine nS ?_
 refine j (sq (rG rfl fun K j=>?_))
 refine gF' h ?_ ?_<;>intro hc h
 ·refine j (ct rfl (Cd rfl ?_))
  cases x0 h aq db;exact en Tryz.results76
 refine gF' h ?_ ?_<;>intro hc h
 ·refine j (ct rfl (Cd rfl ?_))
  cases x0 h aq db;exact en Tryz.results76
 refine gF' h ?_ ?_<;>intro hc h
 ·refine j (ct rfl (Cd rfl ?_))
  cases x0 h aq db;exact en Tryz.results76
 refine j (cA h rfl ?_ ?_)<;>intro hc h
 ·refine Cd rfl ?_
  cases x0 h aq db;exact en Tryz.results76
 refine gw6 (sq (dR Tryz.mixed fun K j=>?_))
 refine nS ?_
 obtain⟨hk,h⟩:=Fv h
 intro hm
 (repeat(refine⟨by omega,?_⟩))
 obtain⟨y4,ch,h⟩:=Ae h
 refine Br.pure Tryz.call161 (cO (p.Hazards.take k1) ak.ID ch) rfl ?_
 refine nS ?_
 refine j _ _ _ (by kernel_rfl) (qn (cA h rfl ?_ ?_))<;>intro hc h
 ·refine Cd rfl ?_
  cases x0 h aq db;exact en Tryz.results76
 refine Co (rG rfl fun K j=>?_)
 obtain⟨y5,cw,h⟩:=Ae h
 refine Ah.pure Tryz.call162 (Wn p ak.Run cw) rfl fun _ hr=>?_
 subst hr
 refine nS ?_
 refine j (cA h rfl ?_ ?_)<;>intro hc h
 ·refine Cs rfl ?_
  cases x0 h aq db;exact en Tryz.results76
 refine gw5 rfl ?_
 refine lE bl aq h () ?_ ?_<;>exact cuw cz
def P9 (l:List C7) (k0:Nat) (ab:C7) (sv:Unit):Option (Out (Unit) (Int)):=
 (bif (decide (ab.Run<1))then some (Out.ret 2)else (bif (decide (9999<ab.Run))then some (Out.ret 2)else (bif (decide (ab.Groomed<(-1)))then some (Out.ret 2)else (bif (decide (20000000<ab.Groomed))then some (Out.ret 2)else (bif (decide (ab.Traffic<0))then some (Out.ret 2)else (bif (decide (1000000<ab.Traffic))then some (Out.ret 2)else (bif (decide (0<((k0:Nat):Int)))then (Da l (IntKind.i64.wrap (((k0:Nat):Int) - 1))).bind fun ak=>(bif (decide (ab.Run≤ak.Run))then some (Out.ret 11)else some (Out.next ()))else some (Out.next ()))))))))
def Mr (l:List C7):Option (Int):=
 (bif (decide (64<((l.length:Nat):Int)))then some 4 else(Al (P9 l) 0 l ()).bind fun o0=>o0.on fun s0=>some 0)
theorem bY (l:List C7) {r:Int} (h:Mr l=some r):Ad Tryz.prog 77 [.sl 3 (l.map Bd)] (·= .int .i64 r):=by
 refine Ad.nle (Ad.intro Tryz.func77 rfl rfl (by show _≤57;simp) ?_)
 unfold Mr at h
 refine nS (sq ?_)
 refine B5 rfl ?_
 refine rg rfl fun K j=>?_
 intro hm
 refine j _ _ (qn (cA h rfl ?_ ?_))<;>intro hc h
 ·refine gw8 rfl ?_
  cases h;exact en Tryz.results77
 refine gw6 (rG rfl fun K j=>?_)
 intro hm
 refine j (bk ?_)
 obtain⟨o0,aa,ae⟩:=Ae h
 clear h
 refine AWP.Bh aa () (fun zz=>[(0,.sl 3 (l.map Bd)),(8,.sl 3 (l.map Bd)),(9,.int .i64 ((l.length:Nat):Int)),(10,.int .i64 ((zz.1:Nat):Int))]) (fun zz=>[]) ?_
 rintro k0 ⟨⟩ ⟨⟩ bb aa
 dsimp only
 refine Cy rfl ?_
 refine cD rfl ?_ ?_<;>intro hc
 ·obtain rfl:=fnD aa hc
  have h:=Ao ae;try dsimp only at h
  have af:=leD bb hc
  subst af
  refine Cr rfl ?_
  cases h;exact en Tryz.results77
 obtain⟨ab,b0,ag,bh,ao,h,aa⟩:=fcD aa hc
 have ay:=wk (k:=k0) (by omega)
 unfold P9 at h;try dsimp only at h
 refine gw9 (rG rfl fun K j=>?_)
 refine A1.of (f:=Bd) (l:=l) ao ?_
 refine nS ?_
 refine j (sq (rG rfl fun K j=>?_))
 refine gF' h ?_ ?_<;>intro hc h
 ·refine j (ct rfl (Cd rfl ?_))
  cases x0 h aa ae;exact en Tryz.results77
 refine gF' h ?_ ?_<;>intro hc h
 ·refine j (ct rfl (Cd rfl ?_))
  cases x0 h aa ae;exact en Tryz.results77
 refine gF' h ?_ ?_<;>intro hc h
 ·refine j (ct rfl (Cd rfl ?_))
  cases x0 h aa ae;exact en Tryz.results77
 refine gF' h ?_ ?_<;>intro hc h
 ·refine j (ct rfl (Cd rfl ?_))
  cases x0 h aa ae;exact en Tryz.results77
 refine gF' h ?_ ?_<;>intro hc h
 ·refine j (ct rfl (Cd rfl ?_))
  cases x0 h aa ae;exact en Tryz.results77
 refine j (cA h rfl ?_ ?_)<;>intro hc h
 ·refine Cd rfl ?_
  cases x0 h aa ae;exact en Tryz.results77
 refine gw6 (dR Tryz.mixed fun K j=>?_)
 refine nS ?_
 refine gT h ?_ ?_<;>intro hc h
 ·obtain⟨ak,cd,h⟩:=Ae h
  refine A1.of (f:=Bd) (l:=l) cd ?_
  refine nS ?_
  refine j _ _ _ (by kernel_rfl) (qn (cA h rfl ?_ ?_))<;>intro hc h
  ·refine Cs rfl ?_
   cases x0 h aa ae;exact en Tryz.results77
  refine gw5 rfl ?_
  refine lE ag aa h () ?_ ?_<;>exact cuw ay
 refine j _ _ _ (by kernel_rfl) (qn (cf rfl (gw5 rfl ?_)))
 refine lE ag aa h () ?_ ?_<;>exact cuw ay
def G8 (s_:Aw):Option (Bool):=
 (bif (decide (1≤s_.ID))then (bif (decide (s_.ID≤9999))then (bif (decide (4≤s_.Limit))then (bif (decide (s_.Limit≤100000))then (bif (decide (0≤s_.Load))then (bif (decide (s_.Load≤100000))then (bif (decide ((-1)≤s_.Controlled))then some (decide (s_.Controlled≤20000000))else some false)else some false)else some false)else some false)else some false)else some false)else some false)
theorem Xj (s_:Aw) {r:Bool} (h:G8 s_=some r):Ad Tryz.prog 163 [.agg (Az s_)] (·= .bool r):=by
 refine Ad.nle (Ad.intro Tryz.func163 rfl rfl (by show _≤41;simp) ?_)
 unfold G8 at h
 refine nS (sq ?_)
 refine gw7 rfl ?_
 refine rg rfl fun K j=>?_
 refine gT' h ?_ ?_<;>intro hc h
 ·refine j _ _ (Cu ?_)
  cases h;exact en Tryz.results163
 refine gT' h ?_ ?_<;>intro hc h
 ·refine j _ _ (Cu ?_)
  cases h;exact en Tryz.results163
 refine gT h ?_ ?_<;>intro hc h
 ·refine gT h ?_ ?_<;>intro hc h
  ·refine gT h ?_ ?_<;>intro hc h
   ·refine gT h ?_ ?_<;>intro hc h
    ·refine gT h ?_ ?_<;>intro hc h
     ·refine j _ _ (Cu ?_)
      cases h;exact en Tryz.results163
     refine j _ _ (Cu ?_)
     cases h;exact en Tryz.results163
    refine j _ _ (Cu ?_)
    cases h;exact en Tryz.results163
   refine j _ _ (Cu ?_)
   cases h;exact en Tryz.results163
  refine j _ _ (Cu ?_)
  cases h;exact en Tryz.results163
 refine j _ _ (Cu ?_)
 cases h;exact en Tryz.results163
def J6 (id_:Int) (k0:Nat) (ab:Aw) (sv:Unit):Option (Out (Unit) (Int)):=
 (bif (decide (ab.ID=id_))then some (Out.ret ((k0:Nat):Int))else some (Out.next ()))
def Ic (l:List Aw) (id_:Int):Option (Int):=
 (Al (J6 id_) 0 l ()).bind fun o0=>o0.on fun s0=>some (-1)
theorem bF (l:List Aw) (id_:Int) {r:Int} (h:Ic l id_=some r):Ad Tryz.prog 164 [.sl 6 (l.map Az),.int .i64 id_] (·= .int .i64 r):=by
 refine Ad.nle (Ad.intro Tryz.func164 rfl rfl (by show _≤8;simp) ?_)
 unfold Ic at h
 refine nS (sq ?_)
 refine gw7 rfl ?_
 refine rg rfl fun K j=>?_
 refine Ah.inline Tryz.call245 Tryz.func245 rfl rfl (by show _≤19;simp) ?_
 refine nS (sq ?_)
 refine B5 rfl ?_
 refine rg rfl fun K j=>?_
 intro hm
 refine j _ _ (qn (bk ?_));clear j K
 obtain⟨o0,aa,ae⟩:=Ae h
 clear h
 refine AWP.Bh aa () (fun zz=>[(0,.sl 6 (l.map Az)),(1,.func 246 [.ptr 0 0]),(7,.int .i64 ((l.length:Nat):Int)),(8,.int .i64 ((zz.1:Nat):Int))]) (fun zz=>[.box [.int .i64 id_]]) ?_
 rintro k0 ⟨⟩ ⟨⟩ bb aa
 dsimp only
 refine Cy rfl ?_
 refine cD rfl ?_ ?_<;>intro hc
 ·obtain rfl:=fnD aa hc
  have h:=Ao ae;try dsimp only at h
  have af:=leD bb hc
  subst af
  refine Cr rfl ?_
  refine nSc Tryz.results245 ?_
  refine j _ _ (Cu ?_)
  cases h;exact en Tryz.results164
 obtain⟨ab,b0,ag,bh,ao,h,aa⟩:=fcD aa hc
 have ay:=wk (k:=k0) (by omega)
 unfold J6 at h;try dsimp only at h
 refine gw9 (Cy rfl ?_)
 refine rg rfl fun K j=>?_
 refine A1.of (f:=Az) (l:=l) ao ?_
 refine nS ?_
 refine Ah.inline Tryz.call246 Tryz.func246 rfl rfl (by show _≤8;simp) ?_
 refine nS (sq ?_)
 refine gw7 rfl ?_
 refine ar rfl (Cu ?_)
 refine nSc Tryz.results246 ?_
 refine j _ _ (qn ?_);clear j K
 refine cA h rfl ?_ ?_<;>intro hc h
 ·refine gw1 rfl (br (qr (qr ?_)))
  replace h:=x0 h aa ae
  refine br (qr (nSc Tryz.results245 ?_))
  refine j _ _ (Cu ?_)
  cases h;exact en Tryz.results164
 refine gw5 rfl ?_
 refine lE ag aa h () ?_ ?_<;>exact cuw ay
def Fl (l:List Int) (most:Int) (k0:Nat) (ab:Int) (sv:Unit):Option (Out (Unit) (Bool)):=
 (bif (decide (ab<1))then some (Out.ret false)else (bif (decide (most<ab))then some (Out.ret false)else (bif (decide (0<((k0:Nat):Int)))then (Da l (IntKind.i64.wrap (((k0:Nat):Int) - 1))).bind fun ak=>(bif (decide (ab≤ak))then some (Out.ret false)else some (Out.next ()))else some (Out.next ()))))
def Ej (l:List Int) (most:Int):Option (Bool):=
 (Al (Fl l most) 0 l ()).bind fun o0=>o0.on fun s0=>some true
theorem Md (l:List Int) (most:Int) {r:Bool} (h:Ej l most=some r):Ad Tryz.prog 165 [.sl 1 (l.map An),.int .i64 most] (·= .bool r):=by
 refine Ad.nle (Ad.intro Tryz.func165 rfl rfl (by show _≤35;simp) ?_)
 unfold Ej at h
 refine nS (sq ?_)
 refine B5 rfl ?_
 refine rg rfl fun K j=>?_
 intro hm
 refine j _ _ (qn (bk ?_))
 obtain⟨o0,aa,ae⟩:=Ae h
 clear h
 refine AWP.Bh aa () (fun zz=>[(0,.sl 1 (l.map An)),(1,.int .i64 most),(7,.sl 1 (l.map An)),(8,.int .i64 ((l.length:Nat):Int)),(9,.int .i64 ((zz.1:Nat):Int))]) (fun zz=>[]) ?_
 rintro k0 ⟨⟩ ⟨⟩ bb aa
 dsimp only
 refine Cy rfl ?_
 refine cD rfl ?_ ?_<;>intro hc
 ·obtain rfl:=fnD aa hc
  have h:=Ao ae;try dsimp only at h
  have af:=leD bb hc
  subst af
  refine Cr rfl ?_
  cases h;exact en Tryz.results165
 obtain⟨ab,b0,ag,bh,ao,h,aa⟩:=fcD aa hc
 have ay:=wk (k:=k0) (by omega)
 unfold Fl at h;try dsimp only at h
 refine gw9 (rG rfl fun K j=>?_)
 refine A1.of (f:=An) (l:=l) ao ?_
 refine nS ?_
 refine j (rG rfl fun K j=>?_)
 refine gF' h ?_ ?_<;>intro hc h
 ·refine j (ct rfl (Cs rfl ?_))
  cases x0 h aa ae;exact en Tryz.results165
 refine gF' h ?_ ?_<;>intro hc h
 ·refine j (ct rfl (Cs rfl ?_))
  cases x0 h aa ae;exact en Tryz.results165
 refine gT h ?_ ?_<;>intro hc h
 ·obtain⟨ak,cd,h⟩:=Ae h
  refine A1.of (f:=An) (l:=l) cd ?_
  refine nS ?_
  refine j (cA h rfl ?_ ?_)<;>intro hc h
  ·refine Cs rfl ?_
   cases x0 h aa ae;exact en Tryz.results165
  refine gw5 rfl ?_
  refine lE ag aa h () ?_ ?_<;>exact cuw ay
 refine j (cf rfl (gw5 rfl ?_))
 refine lE ag aa h () ?_ ?_<;>exact cuw ay
def Gj (l:List Aw) (k0:Nat) (ab:Aw) (sv:Unit):Option (Out (Unit) (Int)):=
 (G8 ab).bind fun y3=>(bif (!y3)then some (Out.ret 2)else okB (decide (0≤((k0:Nat):Int)∧((k0:Nat):Int)≤((l.length:Nat):Int))) ((Ic (l.take k0) ab.ID).bind fun y4=>(bif (decide (0≤y4))then some (Out.ret 7)else (bif (decide (((ab.Zones.length:Nat):Int)=0))then some (Out.ret 1)else (Ej ab.Zones 32).bind fun y5=>(bif (!y5)then some (Out.ret 1)else (Ej ab.Lifts 9999).bind fun y6=>(bif (!y6)then some (Out.ret 1)else some (Out.next ())))))))
def Jq (l:List Aw):Option (Int):=
 (bif (decide (32<((l.length:Nat):Int)))then some 4 else(Al (Gj l) 0 l ()).bind fun o0=>o0.on fun s0=>some 0)
theorem Zs (l:List Aw) {r:Int} (h:Jq l=some r):Ad Tryz.prog 78 [.sl 6 (l.map Az)] (·= .int .i64 r):=by
 refine Ad.nle (Ad.intro Tryz.func78 rfl rfl (by show _≤42;simp) ?_)
 unfold Jq at h
 refine nS (sq ?_)
 refine B5 rfl ?_
 refine rg rfl fun K j=>?_
 intro hm
 refine j _ _ (qn (cA h rfl ?_ ?_))<;>intro hc h
 ·refine gw8 rfl ?_
  cases h;exact en Tryz.results78
 refine gw6 (rG rfl fun K j=>?_)
 intro hm
 refine j (bk ?_)
 obtain⟨o0,aa,ae⟩:=Ae h
 clear h
 refine AWP.Bh aa () (fun zz=>[(0,.sl 6 (l.map Az)),(8,.sl 6 (l.map Az)),(9,.int .i64 ((l.length:Nat):Int)),(10,.int .i64 ((zz.1:Nat):Int))]) (fun zz=>[]) ?_
 rintro k0 ⟨⟩ ⟨⟩ bb aa
 dsimp only
 refine Cy rfl ?_
 refine cD rfl ?_ ?_<;>intro hc
 ·obtain rfl:=fnD aa hc
  have h:=Ao ae;try dsimp only at h
  have af:=leD bb hc
  subst af
  refine Cr rfl ?_
  cases h;exact en Tryz.results78
 obtain⟨ab,b0,ag,bh,ao,h,aa⟩:=fcD aa hc
 have ay:=wk (k:=k0) (by omega)
 unfold Gj at h;try dsimp only at h
 refine gw9 (rG rfl fun K j=>?_)
 refine A1.of (f:=Az) (l:=l) ao ?_
 refine nS ?_
 refine j (sq (rG rfl fun K j=>?_))
 obtain⟨y3,bu,h⟩:=Ae h
 refine Ah.pure Tryz.call163 (Xj ab bu) rfl fun _ hr=>?_
 subst hr
 refine nS ?_
 refine j (cA h rfl ?_ ?_)<;>intro hc h
 ·refine Cd rfl ?_
  cases x0 h aa ae;exact en Tryz.results78
 refine gw6 (sq (dR Tryz.mixed fun K j=>?_))
 refine nS ?_
 obtain⟨hk,h⟩:=Fv h
 intro hm
 (repeat(refine⟨by omega,?_⟩))
 obtain⟨y4,ch,h⟩:=Ae h
 refine Br.pure Tryz.call164 (bF (l.take k0) ab.ID ch) rfl ?_
 refine nS ?_
 refine j _ _ _ (by kernel_rfl) (qn (cA h rfl ?_ ?_))<;>intro hc h
 ·refine Cd rfl ?_
  cases x0 h aa ae;exact en Tryz.results78
 refine Co (rG rfl fun K j=>?_)
 intro hm
 refine gF' h ?_ ?_<;>intro hc h
 ·refine j (ct rfl (Cs rfl ?_))
  cases x0 h aa ae;exact en Tryz.results78
 obtain⟨y5,cw,h⟩:=Ae h
 refine Ah.pure Tryz.call165 (Md ab.Zones 32 cw) rfl fun _ hr=>?_
 subst hr
 refine nS ?_
 refine gF h ?_ ?_<;>intro hc h
 ·obtain⟨y6,ec,h⟩:=Ae h
  refine Ah.pure Tryz.call165 (Md ab.Lifts 9999 ec) rfl fun _ hr=>?_
  subst hr
  refine nS ?_
  refine j (cA h rfl ?_ ?_)<;>intro hc h
  ·refine Cs rfl ?_
   cases x0 h aa ae;exact en Tryz.results78
  refine gw5 rfl ?_
  refine lE ag aa h () ?_ ?_<;>exact cuw ay
 refine j (ct rfl (Cs rfl ?_))
 cases x0 h aa ae;exact en Tryz.results78
end
end Go.Proofs.YtjopghiagoidgaaGreat
