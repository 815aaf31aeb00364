import Derived.Test.YthobmgkagcampaaGreatDoorALibC
import Derived.Test.YthobmgkagcampaaGreatDoorProg
namespace Go.Abs
open Go.RowKit Go.Proofs
set_option linter.all false
set_option maxRecDepth 100000
theorem mixed : Tryz.prog.follows .mixedOrders = true := by kernel_rfl
theorem agg_int : aggT Tryz.prog 3 = some false := by kernel_rfl
theorem sz_int : szT Tryz.prog 3 = some 1 := by kernel_rfl
attribute [go_sem] sz_int
theorem ld_int {m : Mem} {cs : List Value} {K : AV -> Prop} : onR (loadS Tryz.prog 3 m (.at (.pi cs))) K = (0 < cs.length /\ evK (todo (cs.getD 0 undef)) fun u => K (.at (.v u))) := load_pi1 agg_int
theorem lp_int {κ ver sz j off : Nat} {m : Mem} {K : AV -> Prop} : loadK Tryz.prog 3 m (.at (.pa κ ver sz j off)) K = (off < sz /\ rowAt (todo (m κ)) ver sz j fun r => evK (todo (r.getD off undef)) fun u => K (.at (.v u))) := loadK_paA agg_int sz_int
attribute [go_sem] ld_int lp_int
theorem lb_int {m : Mem} {κ ver off : Nat} {K : AV -> Prop} : onR (loadS Tryz.prog 3 m (.at (.bx κ ver off))) K = boxAt (todo (m κ)) ver fun cells => onO (todo cells[off]?) fun a => K (.at a) := load_bxK1 agg_int
theorem sb_int {m : Mem} {κ ver off : Nat} {X : AV} {K : Mem -> Prop} : onR (storeS Tryz.prog 3 m (.at (.bx κ ver off)) X) K = boxAt (todo (m κ)) ver fun cells => onO (todo (atomsOf X)) fun new => new.length = 1 /\ off + 1 <= cells.length /\ evK (todo (splice cells off new)) fun cs => K (upd m κ (.box ver cs)) := store_bxK sz_int
theorem sp_int {m : Mem} {κ ver sz j off : Nat} {X : AV} {K : Mem -> Prop} : onR (storeS Tryz.prog 3 m (.at (.pa κ ver sz j off)) X) K = arrAt (todo (m κ)) ver sz fun rows => onO (todo ((atomsOf X).bind valsOf)) fun us => us.length = 1 /\ (j < rows.length /\ off + 1 <= sz) /\ evK (todo (rows.set j (splice (rows.getD j []) off us))) fun rs => K (upd m κ (.arr ver sz rs)) := store_paK sz_int
attribute [go_sem] lb_int sb_int sp_int
theorem agg_bool : aggT Tryz.prog 4 = some false := by kernel_rfl
theorem sz_bool : szT Tryz.prog 4 = some 1 := by kernel_rfl
attribute [go_sem] sz_bool
theorem ld_bool {m : Mem} {cs : List Value} {K : AV -> Prop} : onR (loadS Tryz.prog 4 m (.at (.pi cs))) K = (0 < cs.length /\ evK (todo (cs.getD 0 undef)) fun u => K (.at (.v u))) := load_pi1 agg_bool
theorem lp_bool {κ ver sz j off : Nat} {m : Mem} {K : AV -> Prop} : loadK Tryz.prog 4 m (.at (.pa κ ver sz j off)) K = (off < sz /\ rowAt (todo (m κ)) ver sz j fun r => evK (todo (r.getD off undef)) fun u => K (.at (.v u))) := loadK_paA agg_bool sz_bool
attribute [go_sem] ld_bool lp_bool
theorem lb_bool {m : Mem} {κ ver off : Nat} {K : AV -> Prop} : onR (loadS Tryz.prog 4 m (.at (.bx κ ver off))) K = boxAt (todo (m κ)) ver fun cells => onO (todo cells[off]?) fun a => K (.at a) := load_bxK1 agg_bool
theorem sb_bool {m : Mem} {κ ver off : Nat} {X : AV} {K : Mem -> Prop} : onR (storeS Tryz.prog 4 m (.at (.bx κ ver off)) X) K = boxAt (todo (m κ)) ver fun cells => onO (todo (atomsOf X)) fun new => new.length = 1 /\ off + 1 <= cells.length /\ evK (todo (splice cells off new)) fun cs => K (upd m κ (.box ver cs)) := store_bxK sz_bool
theorem sp_bool {m : Mem} {κ ver sz j off : Nat} {X : AV} {K : Mem -> Prop} : onR (storeS Tryz.prog 4 m (.at (.pa κ ver sz j off)) X) K = arrAt (todo (m κ)) ver sz fun rows => onO (todo ((atomsOf X).bind valsOf)) fun us => us.length = 1 /\ (j < rows.length /\ off + 1 <= sz) /\ evK (todo (rows.set j (splice (rows.getD j []) off us))) fun rs => K (upd m κ (.arr ver sz rs)) := store_paK sz_bool
attribute [go_sem] lb_bool sb_bool sp_bool
theorem und_bool : Tryz.prog.underlying 4 = some .bool := Tryz.underlying4
theorem bneq {p q : Bool} {K : Value -> Prop} : onR (binS Tryz.prog .neq 4 (.at (.v (.bool p))) (.at (.v (.bool q)))) K = K (.bool (!(p == q))) := bin_bneq und_bool
attribute [go_sem] bneq
theorem agg_string : aggT Tryz.prog 9 = some false := by kernel_rfl
theorem sz_string : szT Tryz.prog 9 = some 1 := by kernel_rfl
theorem ld_string {m : Mem} {cs : List Value} {K : AV -> Prop} : onR (loadS Tryz.prog 9 m (.at (.pi cs))) K = (0 < cs.length /\ evK (todo (cs.getD 0 undef)) fun u => K (.at (.v u))) := load_pi1 agg_string
theorem lp_string {κ ver sz j off : Nat} {m : Mem} {K : AV -> Prop} : loadK Tryz.prog 9 m (.at (.pa κ ver sz j off)) K = (off < sz /\ rowAt (todo (m κ)) ver sz j fun r => evK (todo (r.getD off undef)) fun u => K (.at (.v u))) := loadK_paA agg_string sz_string
attribute [go_sem] ld_string lp_string
theorem sp_string {m : Mem} {κ ver sz j off : Nat} {X : AV} {K : Mem -> Prop} : onR (storeS Tryz.prog 9 m (.at (.pa κ ver sz j off)) X) K = arrAt (todo (m κ)) ver sz fun rows => onO (todo ((atomsOf X).bind valsOf)) fun us => us.length = 1 /\ (j < rows.length /\ off + 1 <= sz) /\ evK (todo (rows.set j (splice (rows.getD j []) off us))) fun rs => K (upd m κ (.arr ver sz rs)) := store_paK sz_string
attribute [go_sem] sp_string
theorem und_intS : Tryz.prog.underlying 24 = some (.slice 3) := Tryz.underlying24
theorem agg_intS : aggT Tryz.prog 24 = some false := by kernel_rfl
theorem sz_intS : szT Tryz.prog 24 = some 1 := by kernel_rfl
theorem ix_intS {rows : List (List Value)} {k : IntKind} {i : Int} {K : AV -> Prop} : onR (indexAddrS Tryz.prog 24 (.at (.im 1 rows)) (.at (.v (.int k i)))) K = ((0 <= i /\ i < (rows.length : Int)) /\ ∀ r, rows[i.toNat]? = some r -> K (.at (.pi r))) := idx_im und_intS sz_int
theorem io_intS {κ ver n : Nat} {k : IntKind} {i : Int} {K : AV -> Prop} : onR (indexAddrS Tryz.prog 24 (.at (.ow κ ver 1 n)) (.at (.v (.int k i)))) K = ((0 <= i /\ i < (n : Int)) /\ evK (todo i.toNat) fun j => K (.at (.pa κ ver 1 j 0))) := idx_ow und_intS sz_int
theorem ln_intS {sz : Nat} {rows : List (List Value)} {K : Value -> Prop} : onO (lenS Tryz.prog 24 (.at (.im sz rows))) K = K (.int .i64 rows.length) := len_im und_intS
theorem lo_intS {κ ver sz n : Nat} {K : Value -> Prop} : onO (lenS Tryz.prog 24 (.at (.ow κ ver sz n))) K = K (.int .i64 n) := len_ow und_intS
theorem si_intS : siOf Tryz.prog 24 = some ⟨3, 1, 8, [.int .i64 0]⟩ := by kernel_rfl
attribute [go_sem] ix_intS io_intS ln_intS lo_intS si_intS
attribute [go_sem] sz_intS
theorem lb_intS {m : Mem} {κ ver off : Nat} {K : AV -> Prop} : onR (loadS Tryz.prog 24 m (.at (.bx κ ver off))) K = boxAt (todo (m κ)) ver fun cells => onO (todo cells[off]?) fun a => K (.at a) := load_bxK1 agg_intS
theorem sb_intS {m : Mem} {κ ver off : Nat} {X : AV} {K : Mem -> Prop} : onR (storeS Tryz.prog 24 m (.at (.bx κ ver off)) X) K = boxAt (todo (m κ)) ver fun cells => onO (todo (atomsOf X)) fun new => new.length = 1 /\ off + 1 <= cells.length /\ evK (todo (splice cells off new)) fun cs => K (upd m κ (.box ver cs)) := store_bxK sz_intS
attribute [go_sem] lb_intS sb_intS
theorem und_boolS : Tryz.prog.underlying 31 = some (.slice 4) := Tryz.underlying31
theorem agg_boolS : aggT Tryz.prog 31 = some false := by kernel_rfl
theorem sz_boolS : szT Tryz.prog 31 = some 1 := by kernel_rfl
theorem ix_boolS {rows : List (List Value)} {k : IntKind} {i : Int} {K : AV -> Prop} : onR (indexAddrS Tryz.prog 31 (.at (.im 1 rows)) (.at (.v (.int k i)))) K = ((0 <= i /\ i < (rows.length : Int)) /\ ∀ r, rows[i.toNat]? = some r -> K (.at (.pi r))) := idx_im und_boolS sz_bool
theorem io_boolS {κ ver n : Nat} {k : IntKind} {i : Int} {K : AV -> Prop} : onR (indexAddrS Tryz.prog 31 (.at (.ow κ ver 1 n)) (.at (.v (.int k i)))) K = ((0 <= i /\ i < (n : Int)) /\ evK (todo i.toNat) fun j => K (.at (.pa κ ver 1 j 0))) := idx_ow und_boolS sz_bool
theorem ln_boolS {sz : Nat} {rows : List (List Value)} {K : Value -> Prop} : onO (lenS Tryz.prog 31 (.at (.im sz rows))) K = K (.int .i64 rows.length) := len_im und_boolS
theorem lo_boolS {κ ver sz n : Nat} {K : Value -> Prop} : onO (lenS Tryz.prog 31 (.at (.ow κ ver sz n))) K = K (.int .i64 n) := len_ow und_boolS
theorem si_boolS : siOf Tryz.prog 31 = some ⟨4, 1, 1, [.bool false]⟩ := by kernel_rfl
theorem ci_boolS {nx : Nat} {q : Qm} {t : Nat -> AV} {m : Mem} {rows : List (List Value)} {lo hi : Option Operand} {K : AV -> Mem -> Prop} : onM (sliceS Tryz.prog nx q 31 ⟨t, m⟩ (.at (.im 1 rows)) lo hi none) K = onO (todo (boundS ⟨t, m⟩ lo 0)) fun l => onO (todo (boundS ⟨t, m⟩ hi rows.length)) fun h => (0 <= l /\ l <= h /\ h <= (rows.length : Int)) /\ evK (todo ((rows.drop l.toNat).take (h.toNat - l.toNat))) fun rs => K (.at (.im 1 rs)) m := cut_im_k und_boolS sz_bool
attribute [go_sem] ix_boolS io_boolS ln_boolS lo_boolS si_boolS ci_boolS
attribute [go_sem] sz_boolS
theorem lb_boolS {m : Mem} {κ ver off : Nat} {K : AV -> Prop} : onR (loadS Tryz.prog 31 m (.at (.bx κ ver off))) K = boxAt (todo (m κ)) ver fun cells => onO (todo cells[off]?) fun a => K (.at a) := load_bxK1 agg_boolS
theorem sb_boolS {m : Mem} {κ ver off : Nat} {X : AV} {K : Mem -> Prop} : onR (storeS Tryz.prog 31 m (.at (.bx κ ver off)) X) K = boxAt (todo (m κ)) ver fun cells => onO (todo (atomsOf X)) fun new => new.length = 1 /\ off + 1 <= cells.length /\ evK (todo (splice cells off new)) fun cs => K (upd m κ (.box ver cs)) := store_bxK sz_boolS
attribute [go_sem] lb_boolS sb_boolS
theorem und_stringS : Tryz.prog.underlying 41 = some (.slice 9) := Tryz.underlying41
theorem ix_stringS {rows : List (List Value)} {k : IntKind} {i : Int} {K : AV -> Prop} : onR (indexAddrS Tryz.prog 41 (.at (.im 1 rows)) (.at (.v (.int k i)))) K = ((0 <= i /\ i < (rows.length : Int)) /\ ∀ r, rows[i.toNat]? = some r -> K (.at (.pi r))) := idx_im und_stringS sz_string
theorem io_stringS {κ ver n : Nat} {k : IntKind} {i : Int} {K : AV -> Prop} : onR (indexAddrS Tryz.prog 41 (.at (.ow κ ver 1 n)) (.at (.v (.int k i)))) K = ((0 <= i /\ i < (n : Int)) /\ evK (todo i.toNat) fun j => K (.at (.pa κ ver 1 j 0))) := idx_ow und_stringS sz_string
theorem ln_stringS {sz : Nat} {rows : List (List Value)} {K : Value -> Prop} : onO (lenS Tryz.prog 41 (.at (.im sz rows))) K = K (.int .i64 rows.length) := len_im und_stringS
theorem lo_stringS {κ ver sz n : Nat} {K : Value -> Prop} : onO (lenS Tryz.prog 41 (.at (.ow κ ver sz n))) K = K (.int .i64 n) := len_ow und_stringS
theorem si_stringS : siOf Tryz.prog 41 = some ⟨9, 1, 16, [.string ByteArray.empty]⟩ := by kernel_rfl
theorem ci_stringS {nx : Nat} {q : Qm} {t : Nat -> AV} {m : Mem} {rows : List (List Value)} {lo hi : Option Operand} {K : AV -> Mem -> Prop} : onM (sliceS Tryz.prog nx q 41 ⟨t, m⟩ (.at (.im 1 rows)) lo hi none) K = onO (todo (boundS ⟨t, m⟩ lo 0)) fun l => onO (todo (boundS ⟨t, m⟩ hi rows.length)) fun h => (0 <= l /\ l <= h /\ h <= (rows.length : Int)) /\ evK (todo ((rows.drop l.toNat).take (h.toNat - l.toNat))) fun rs => K (.at (.im 1 rs)) m := cut_im_k und_stringS sz_string
attribute [go_sem] ix_stringS io_stringS ln_stringS lo_stringS si_stringS ci_stringS
theorem agg_implPage : aggT Tryz.prog 82 = some true := by kernel_rfl
theorem sz_implPage : szT Tryz.prog 82 = some 4 := by kernel_rfl
theorem za_implPage : zeroAtoms Tryz.prog 82 = some [.v (.int .i64 0), .v (.int .i64 0), .v (.int .i64 0), .v (.int .i64 0)] := by kernel_rfl
attribute [go_sem] za_implPage
theorem ld_implPage {m : Mem} {cs : List Value} {K : AV -> Prop} : onR (loadS Tryz.prog 82 m (.at (.pi cs))) K = (4 <= cs.length /\ evK (todo ((cs.take 4).map A.v)) fun cs => K (.ag cs)) := load_piN agg_implPage sz_implPage
theorem ti_implPage : tiOf Tryz.prog 82 = some ⟨[⟨"Day", 3, 0, false, "", "", 0⟩, ⟨"Cell", 3, 1, false, "", "", 8⟩, ⟨"Food", 3, 2, false, "", "", 16⟩, ⟨"Seal", 3, 3, false, "", "", 24⟩], [.v (.int .i64 0), .v (.int .i64 0), .v (.int .i64 0), .v (.int .i64 0)]⟩ := by kernel_rfl
attribute [go_sem] ld_implPage ti_implPage
theorem fp_implPage_0 {cs : List Value} {K : AV -> Prop} : onO (fieldAddrS Tryz.prog 82 0 (.at (.pi cs))) K = evK (todo (cs.drop 0)) (fun c => K (.at (.pi c))) := fa_pi (fd := ⟨"Day", 3, 0, false, "", "", 0⟩) Tryz.underlying82 rfl sz_int
theorem fo_implPage_0 {κ ver sz i off : Nat} {K : AV -> Prop} : onO (fieldAddrS Tryz.prog 82 0 (.at (.pa κ ver sz i off))) K = evK (todo (off + 0)) (fun o => K (.at (.pa κ ver sz i o))) := fa_pa (fd := ⟨"Day", 3, 0, false, "", "", 0⟩) Tryz.underlying82 rfl sz_int
theorem fb_implPage_0 {κ ver off : Nat} {K : AV -> Prop} : onO (fieldAddrS Tryz.prog 82 0 (.at (.bx κ ver off))) K = evK (todo (off + 0)) (fun o => K (.at (.bx κ ver o))) := fa_bx (fd := ⟨"Day", 3, 0, false, "", "", 0⟩) Tryz.underlying82 rfl sz_int
attribute [go_sem] fp_implPage_0 fo_implPage_0 fb_implPage_0
theorem fp_implPage_1 {cs : List Value} {K : AV -> Prop} : onO (fieldAddrS Tryz.prog 82 1 (.at (.pi cs))) K = evK (todo (cs.drop 1)) (fun c => K (.at (.pi c))) := fa_pi (fd := ⟨"Cell", 3, 1, false, "", "", 8⟩) Tryz.underlying82 rfl sz_int
theorem fo_implPage_1 {κ ver sz i off : Nat} {K : AV -> Prop} : onO (fieldAddrS Tryz.prog 82 1 (.at (.pa κ ver sz i off))) K = evK (todo (off + 1)) (fun o => K (.at (.pa κ ver sz i o))) := fa_pa (fd := ⟨"Cell", 3, 1, false, "", "", 8⟩) Tryz.underlying82 rfl sz_int
theorem fb_implPage_1 {κ ver off : Nat} {K : AV -> Prop} : onO (fieldAddrS Tryz.prog 82 1 (.at (.bx κ ver off))) K = evK (todo (off + 1)) (fun o => K (.at (.bx κ ver o))) := fa_bx (fd := ⟨"Cell", 3, 1, false, "", "", 8⟩) Tryz.underlying82 rfl sz_int
attribute [go_sem] fp_implPage_1 fo_implPage_1 fb_implPage_1
theorem fp_implPage_2 {cs : List Value} {K : AV -> Prop} : onO (fieldAddrS Tryz.prog 82 2 (.at (.pi cs))) K = evK (todo (cs.drop 2)) (fun c => K (.at (.pi c))) := fa_pi (fd := ⟨"Food", 3, 2, false, "", "", 16⟩) Tryz.underlying82 rfl sz_int
theorem fo_implPage_2 {κ ver sz i off : Nat} {K : AV -> Prop} : onO (fieldAddrS Tryz.prog 82 2 (.at (.pa κ ver sz i off))) K = evK (todo (off + 2)) (fun o => K (.at (.pa κ ver sz i o))) := fa_pa (fd := ⟨"Food", 3, 2, false, "", "", 16⟩) Tryz.underlying82 rfl sz_int
theorem fb_implPage_2 {κ ver off : Nat} {K : AV -> Prop} : onO (fieldAddrS Tryz.prog 82 2 (.at (.bx κ ver off))) K = evK (todo (off + 2)) (fun o => K (.at (.bx κ ver o))) := fa_bx (fd := ⟨"Food", 3, 2, false, "", "", 16⟩) Tryz.underlying82 rfl sz_int
attribute [go_sem] fp_implPage_2 fo_implPage_2 fb_implPage_2
theorem fp_implPage_3 {cs : List Value} {K : AV -> Prop} : onO (fieldAddrS Tryz.prog 82 3 (.at (.pi cs))) K = evK (todo (cs.drop 3)) (fun c => K (.at (.pi c))) := fa_pi (fd := ⟨"Seal", 3, 3, false, "", "", 24⟩) Tryz.underlying82 rfl sz_int
theorem fo_implPage_3 {κ ver sz i off : Nat} {K : AV -> Prop} : onO (fieldAddrS Tryz.prog 82 3 (.at (.pa κ ver sz i off))) K = evK (todo (off + 3)) (fun o => K (.at (.pa κ ver sz i o))) := fa_pa (fd := ⟨"Seal", 3, 3, false, "", "", 24⟩) Tryz.underlying82 rfl sz_int
theorem fb_implPage_3 {κ ver off : Nat} {K : AV -> Prop} : onO (fieldAddrS Tryz.prog 82 3 (.at (.bx κ ver off))) K = evK (todo (off + 3)) (fun o => K (.at (.bx κ ver o))) := fa_bx (fd := ⟨"Seal", 3, 3, false, "", "", 24⟩) Tryz.underlying82 rfl sz_int
attribute [go_sem] fp_implPage_3 fo_implPage_3 fb_implPage_3
theorem lb_implPage {m : Mem} {κ ver off : Nat} {K : AV -> Prop} : onR (loadS Tryz.prog 82 m (.at (.bx κ ver off))) K = boxAt (todo (m κ)) ver fun cells => off + 4 <= cells.length /\ evK (todo ((cells.drop off).take 4)) fun cs => K (.ag cs) := load_bxKN agg_implPage sz_implPage
theorem sb_implPage {m : Mem} {κ ver off : Nat} {X : AV} {K : Mem -> Prop} : onR (storeS Tryz.prog 82 m (.at (.bx κ ver off)) X) K = boxAt (todo (m κ)) ver fun cells => onO (todo (atomsOf X)) fun new => new.length = 4 /\ off + 4 <= cells.length /\ evK (todo (splice cells off new)) fun cs => K (upd m κ (.box ver cs)) := store_bxK sz_implPage
theorem sp_implPage {m : Mem} {κ ver sz j off : Nat} {X : AV} {K : Mem -> Prop} : onR (storeS Tryz.prog 82 m (.at (.pa κ ver sz j off)) X) K = arrAt (todo (m κ)) ver sz fun rows => onO (todo ((atomsOf X).bind valsOf)) fun us => us.length = 4 /\ (j < rows.length /\ off + 4 <= sz) /\ evK (todo (rows.set j (splice (rows.getD j []) off us))) fun rs => K (upd m κ (.arr ver sz rs)) := store_paK sz_implPage
attribute [go_sem] lb_implPage sb_implPage sp_implPage
theorem und_implPageS : Tryz.prog.underlying 34 = some (.slice 82) := Tryz.underlying34
theorem agg_implPageS : aggT Tryz.prog 34 = some false := by kernel_rfl
theorem sz_implPageS : szT Tryz.prog 34 = some 1 := by kernel_rfl
theorem ix_implPageS {rows : List (List Value)} {k : IntKind} {i : Int} {K : AV -> Prop} : onR (indexAddrS Tryz.prog 34 (.at (.im 4 rows)) (.at (.v (.int k i)))) K = ((0 <= i /\ i < (rows.length : Int)) /\ ∀ r, rows[i.toNat]? = some r -> K (.at (.pi r))) := idx_im und_implPageS sz_implPage
theorem io_implPageS {κ ver n : Nat} {k : IntKind} {i : Int} {K : AV -> Prop} : onR (indexAddrS Tryz.prog 34 (.at (.ow κ ver 4 n)) (.at (.v (.int k i)))) K = ((0 <= i /\ i < (n : Int)) /\ evK (todo i.toNat) fun j => K (.at (.pa κ ver 4 j 0))) := idx_ow und_implPageS sz_implPage
theorem ln_implPageS {sz : Nat} {rows : List (List Value)} {K : Value -> Prop} : onO (lenS Tryz.prog 34 (.at (.im sz rows))) K = K (.int .i64 rows.length) := len_im und_implPageS
theorem lo_implPageS {κ ver sz n : Nat} {K : Value -> Prop} : onO (lenS Tryz.prog 34 (.at (.ow κ ver sz n))) K = K (.int .i64 n) := len_ow und_implPageS
theorem si_implPageS : siOf Tryz.prog 34 = some ⟨82, 4, 32, [.int .i64 0, .int .i64 0, .int .i64 0, .int .i64 0]⟩ := by kernel_rfl
attribute [go_sem] ix_implPageS io_implPageS ln_implPageS lo_implPageS si_implPageS
attribute [go_sem] sz_implPageS
theorem lb_implPageS {m : Mem} {κ ver off : Nat} {K : AV -> Prop} : onR (loadS Tryz.prog 34 m (.at (.bx κ ver off))) K = boxAt (todo (m κ)) ver fun cells => onO (todo cells[off]?) fun a => K (.at a) := load_bxK1 agg_implPageS
theorem sb_implPageS {m : Mem} {κ ver off : Nat} {X : AV} {K : Mem -> Prop} : onR (storeS Tryz.prog 34 m (.at (.bx κ ver off)) X) K = boxAt (todo (m κ)) ver fun cells => onO (todo (atomsOf X)) fun new => new.length = 1 /\ off + 1 <= cells.length /\ evK (todo (splice cells off new)) fun cs => K (upd m κ (.box ver cs)) := store_bxK sz_implPageS
attribute [go_sem] lb_implPageS sb_implPageS
theorem agg_implEvent : aggT Tryz.prog 99 = some true := by kernel_rfl
theorem sz_implEvent : szT Tryz.prog 99 = some 3 := by kernel_rfl
theorem za_implEvent : zeroAtoms Tryz.prog 99 = some [.v (.int .i64 0), .v (.int .i64 0), .v (.bool false)] := by kernel_rfl
attribute [go_sem] za_implEvent
theorem ld_implEvent {m : Mem} {cs : List Value} {K : AV -> Prop} : onR (loadS Tryz.prog 99 m (.at (.pi cs))) K = (3 <= cs.length /\ evK (todo ((cs.take 3).map A.v)) fun cs => K (.ag cs)) := load_piN agg_implEvent sz_implEvent
theorem ti_implEvent : tiOf Tryz.prog 99 = some ⟨[⟨"Kind", 3, 0, false, "", "", 0⟩, ⟨"N", 3, 1, false, "", "", 8⟩, ⟨"Storm", 4, 2, false, "", "", 16⟩], [.v (.int .i64 0), .v (.int .i64 0), .v (.bool false)]⟩ := by kernel_rfl
attribute [go_sem] ld_implEvent ti_implEvent
theorem fb_implEvent_0 {κ ver off : Nat} {K : AV -> Prop} : onO (fieldAddrS Tryz.prog 99 0 (.at (.bx κ ver off))) K = evK (todo (off + 0)) (fun o => K (.at (.bx κ ver o))) := fa_bx (fd := ⟨"Kind", 3, 0, false, "", "", 0⟩) Tryz.underlying99 rfl sz_int
attribute [go_sem] fb_implEvent_0
theorem fb_implEvent_1 {κ ver off : Nat} {K : AV -> Prop} : onO (fieldAddrS Tryz.prog 99 1 (.at (.bx κ ver off))) K = evK (todo (off + 1)) (fun o => K (.at (.bx κ ver o))) := fa_bx (fd := ⟨"N", 3, 1, false, "", "", 8⟩) Tryz.underlying99 rfl sz_int
attribute [go_sem] fb_implEvent_1
theorem fb_implEvent_2 {κ ver off : Nat} {K : AV -> Prop} : onO (fieldAddrS Tryz.prog 99 2 (.at (.bx κ ver off))) K = evK (todo (off + 2)) (fun o => K (.at (.bx κ ver o))) := fa_bx (fd := ⟨"Storm", 4, 2, false, "", "", 16⟩) Tryz.underlying99 rfl sz_bool
attribute [go_sem] fb_implEvent_2
theorem lb_implEvent {m : Mem} {κ ver off : Nat} {K : AV -> Prop} : onR (loadS Tryz.prog 99 m (.at (.bx κ ver off))) K = boxAt (todo (m κ)) ver fun cells => off + 3 <= cells.length /\ evK (todo ((cells.drop off).take 3)) fun cs => K (.ag cs) := load_bxKN agg_implEvent sz_implEvent
theorem sb_implEvent {m : Mem} {κ ver off : Nat} {X : AV} {K : Mem -> Prop} : onR (storeS Tryz.prog 99 m (.at (.bx κ ver off)) X) K = boxAt (todo (m κ)) ver fun cells => onO (todo (atomsOf X)) fun new => new.length = 3 /\ off + 3 <= cells.length /\ evK (todo (splice cells off new)) fun cs => K (upd m κ (.box ver cs)) := store_bxK sz_implEvent
attribute [go_sem] lb_implEvent sb_implEvent
theorem und_implEventS : Tryz.prog.underlying 230 = some (.slice 99) := Tryz.underlying230
theorem ix_implEventS {rows : List (List Value)} {k : IntKind} {i : Int} {K : AV -> Prop} : onR (indexAddrS Tryz.prog 230 (.at (.im 3 rows)) (.at (.v (.int k i)))) K = ((0 <= i /\ i < (rows.length : Int)) /\ ∀ r, rows[i.toNat]? = some r -> K (.at (.pi r))) := idx_im und_implEventS sz_implEvent
theorem ln_implEventS {sz : Nat} {rows : List (List Value)} {K : Value -> Prop} : onO (lenS Tryz.prog 230 (.at (.im sz rows))) K = K (.int .i64 rows.length) := len_im und_implEventS
theorem si_implEventS : siOf Tryz.prog 230 = some ⟨99, 3, 24, [.int .i64 0, .int .i64 0, .bool false]⟩ := by kernel_rfl
attribute [go_sem] ix_implEventS ln_implEventS si_implEventS
theorem agg_implLand : aggT Tryz.prog 26 = some true := by kernel_rfl
theorem sz_implLand : szT Tryz.prog 26 = some 3 := by kernel_rfl
theorem za_implLand : zeroAtoms Tryz.prog 26 = some [.v (.int .i64 0), .v (.int .i64 0), .nil] := by kernel_rfl
attribute [go_sem] za_implLand sz_implLand
theorem ti_implLand : tiOf Tryz.prog 26 = some ⟨[⟨"W", 3, 0, false, "", "", 0⟩, ⟨"H", 3, 1, false, "", "", 8⟩, ⟨"Cells", 24, 2, false, "", "", 16⟩], [.v (.int .i64 0), .v (.int .i64 0), .nil]⟩ := by kernel_rfl
attribute [go_sem] ti_implLand
theorem fb_implLand_0 {κ ver off : Nat} {K : AV -> Prop} : onO (fieldAddrS Tryz.prog 26 0 (.at (.bx κ ver off))) K = evK (todo (off + 0)) (fun o => K (.at (.bx κ ver o))) := fa_bx (fd := ⟨"W", 3, 0, false, "", "", 0⟩) Tryz.underlying26 rfl sz_int
attribute [go_sem] fb_implLand_0
theorem fb_implLand_1 {κ ver off : Nat} {K : AV -> Prop} : onO (fieldAddrS Tryz.prog 26 1 (.at (.bx κ ver off))) K = evK (todo (off + 1)) (fun o => K (.at (.bx κ ver o))) := fa_bx (fd := ⟨"H", 3, 1, false, "", "", 8⟩) Tryz.underlying26 rfl sz_int
attribute [go_sem] fb_implLand_1
theorem fb_implLand_2 {κ ver off : Nat} {K : AV -> Prop} : onO (fieldAddrS Tryz.prog 26 2 (.at (.bx κ ver off))) K = evK (todo (off + 2)) (fun o => K (.at (.bx κ ver o))) := fa_bx (fd := ⟨"Cells", 24, 2, false, "", "", 16⟩) Tryz.underlying26 rfl sz_intS
attribute [go_sem] fb_implLand_2
theorem lb_implLand {m : Mem} {κ ver off : Nat} {K : AV -> Prop} : onR (loadS Tryz.prog 26 m (.at (.bx κ ver off))) K = boxAt (todo (m κ)) ver fun cells => off + 3 <= cells.length /\ evK (todo ((cells.drop off).take 3)) fun cs => K (.ag cs) := load_bxKN agg_implLand sz_implLand
theorem sb_implLand {m : Mem} {κ ver off : Nat} {X : AV} {K : Mem -> Prop} : onR (storeS Tryz.prog 26 m (.at (.bx κ ver off)) X) K = boxAt (todo (m κ)) ver fun cells => onO (todo (atomsOf X)) fun new => new.length = 3 /\ off + 3 <= cells.length /\ evK (todo (splice cells off new)) fun cs => K (upd m κ (.box ver cs)) := store_bxK sz_implLand
attribute [go_sem] lb_implLand sb_implLand
theorem agg_implRule : aggT Tryz.prog 28 = some true := by kernel_rfl
theorem sz_implRule : szT Tryz.prog 28 = some 2 := by kernel_rfl
theorem za_implRule : zeroAtoms Tryz.prog 28 = some [.v (.int .i64 0), .v (.int .i64 0)] := by kernel_rfl
attribute [go_sem] za_implRule sz_implRule
theorem ti_implRule : tiOf Tryz.prog 28 = some ⟨[⟨"Most", 3, 0, false, "", "", 0⟩, ⟨"Window", 3, 1, false, "", "", 8⟩], [.v (.int .i64 0), .v (.int .i64 0)]⟩ := by kernel_rfl
attribute [go_sem] ti_implRule
theorem fb_implRule_0 {κ ver off : Nat} {K : AV -> Prop} : onO (fieldAddrS Tryz.prog 28 0 (.at (.bx κ ver off))) K = evK (todo (off + 0)) (fun o => K (.at (.bx κ ver o))) := fa_bx (fd := ⟨"Most", 3, 0, false, "", "", 0⟩) Tryz.underlying28 rfl sz_int
attribute [go_sem] fb_implRule_0
theorem fb_implRule_1 {κ ver off : Nat} {K : AV -> Prop} : onO (fieldAddrS Tryz.prog 28 1 (.at (.bx κ ver off))) K = evK (todo (off + 1)) (fun o => K (.at (.bx κ ver o))) := fa_bx (fd := ⟨"Window", 3, 1, false, "", "", 8⟩) Tryz.underlying28 rfl sz_int
attribute [go_sem] fb_implRule_1
theorem lb_implRule {m : Mem} {κ ver off : Nat} {K : AV -> Prop} : onR (loadS Tryz.prog 28 m (.at (.bx κ ver off))) K = boxAt (todo (m κ)) ver fun cells => off + 2 <= cells.length /\ evK (todo ((cells.drop off).take 2)) fun cs => K (.ag cs) := load_bxKN agg_implRule sz_implRule
theorem sb_implRule {m : Mem} {κ ver off : Nat} {X : AV} {K : Mem -> Prop} : onR (storeS Tryz.prog 28 m (.at (.bx κ ver off)) X) K = boxAt (todo (m κ)) ver fun cells => onO (todo (atomsOf X)) fun new => new.length = 2 /\ off + 2 <= cells.length /\ evK (todo (splice cells off new)) fun cs => K (upd m κ (.box ver cs)) := store_bxK sz_implRule
attribute [go_sem] lb_implRule sb_implRule
theorem agg_implMember : aggT Tryz.prog 96 = some true := by kernel_rfl
theorem sz_implMember : szT Tryz.prog 96 = some 4 := by kernel_rfl
theorem za_implMember : zeroAtoms Tryz.prog 96 = some [.v (.int .i64 0), .v (.int .i64 0), .v (.int .i64 0), .v (.bool false)] := by kernel_rfl
attribute [go_sem] za_implMember
theorem ld_implMember {m : Mem} {cs : List Value} {K : AV -> Prop} : onR (loadS Tryz.prog 96 m (.at (.pi cs))) K = (4 <= cs.length /\ evK (todo ((cs.take 4).map A.v)) fun cs => K (.ag cs)) := load_piN agg_implMember sz_implMember
theorem ti_implMember : tiOf Tryz.prog 96 = some ⟨[⟨"Id", 3, 0, false, "", "", 0⟩, ⟨"Strength", 3, 1, false, "", "", 8⟩, ⟨"Need", 3, 2, false, "", "", 16⟩, ⟨"Ill", 4, 3, false, "", "", 24⟩], [.v (.int .i64 0), .v (.int .i64 0), .v (.int .i64 0), .v (.bool false)]⟩ := by kernel_rfl
attribute [go_sem] ld_implMember ti_implMember
theorem fp_implMember_0 {cs : List Value} {K : AV -> Prop} : onO (fieldAddrS Tryz.prog 96 0 (.at (.pi cs))) K = evK (todo (cs.drop 0)) (fun c => K (.at (.pi c))) := fa_pi (fd := ⟨"Id", 3, 0, false, "", "", 0⟩) Tryz.underlying96 rfl sz_int
theorem fo_implMember_0 {κ ver sz i off : Nat} {K : AV -> Prop} : onO (fieldAddrS Tryz.prog 96 0 (.at (.pa κ ver sz i off))) K = evK (todo (off + 0)) (fun o => K (.at (.pa κ ver sz i o))) := fa_pa (fd := ⟨"Id", 3, 0, false, "", "", 0⟩) Tryz.underlying96 rfl sz_int
theorem fb_implMember_0 {κ ver off : Nat} {K : AV -> Prop} : onO (fieldAddrS Tryz.prog 96 0 (.at (.bx κ ver off))) K = evK (todo (off + 0)) (fun o => K (.at (.bx κ ver o))) := fa_bx (fd := ⟨"Id", 3, 0, false, "", "", 0⟩) Tryz.underlying96 rfl sz_int
attribute [go_sem] fp_implMember_0 fo_implMember_0 fb_implMember_0
theorem fp_implMember_1 {cs : List Value} {K : AV -> Prop} : onO (fieldAddrS Tryz.prog 96 1 (.at (.pi cs))) K = evK (todo (cs.drop 1)) (fun c => K (.at (.pi c))) := fa_pi (fd := ⟨"Strength", 3, 1, false, "", "", 8⟩) Tryz.underlying96 rfl sz_int
theorem fo_implMember_1 {κ ver sz i off : Nat} {K : AV -> Prop} : onO (fieldAddrS Tryz.prog 96 1 (.at (.pa κ ver sz i off))) K = evK (todo (off + 1)) (fun o => K (.at (.pa κ ver sz i o))) := fa_pa (fd := ⟨"Strength", 3, 1, false, "", "", 8⟩) Tryz.underlying96 rfl sz_int
theorem fb_implMember_1 {κ ver off : Nat} {K : AV -> Prop} : onO (fieldAddrS Tryz.prog 96 1 (.at (.bx κ ver off))) K = evK (todo (off + 1)) (fun o => K (.at (.bx κ ver o))) := fa_bx (fd := ⟨"Strength", 3, 1, false, "", "", 8⟩) Tryz.underlying96 rfl sz_int
attribute [go_sem] fp_implMember_1 fo_implMember_1 fb_implMember_1
theorem fp_implMember_2 {cs : List Value} {K : AV -> Prop} : onO (fieldAddrS Tryz.prog 96 2 (.at (.pi cs))) K = evK (todo (cs.drop 2)) (fun c => K (.at (.pi c))) := fa_pi (fd := ⟨"Need", 3, 2, false, "", "", 16⟩) Tryz.underlying96 rfl sz_int
theorem fo_implMember_2 {κ ver sz i off : Nat} {K : AV -> Prop} : onO (fieldAddrS Tryz.prog 96 2 (.at (.pa κ ver sz i off))) K = evK (todo (off + 2)) (fun o => K (.at (.pa κ ver sz i o))) := fa_pa (fd := ⟨"Need", 3, 2, false, "", "", 16⟩) Tryz.underlying96 rfl sz_int
theorem fb_implMember_2 {κ ver off : Nat} {K : AV -> Prop} : onO (fieldAddrS Tryz.prog 96 2 (.at (.bx κ ver off))) K = evK (todo (off + 2)) (fun o => K (.at (.bx κ ver o))) := fa_bx (fd := ⟨"Need", 3, 2, false, "", "", 16⟩) Tryz.underlying96 rfl sz_int
attribute [go_sem] fp_implMember_2 fo_implMember_2 fb_implMember_2
theorem fp_implMember_3 {cs : List Value} {K : AV -> Prop} : onO (fieldAddrS Tryz.prog 96 3 (.at (.pi cs))) K = evK (todo (cs.drop 3)) (fun c => K (.at (.pi c))) := fa_pi (fd := ⟨"Ill", 4, 3, false, "", "", 24⟩) Tryz.underlying96 rfl sz_bool
theorem fo_implMember_3 {κ ver sz i off : Nat} {K : AV -> Prop} : onO (fieldAddrS Tryz.prog 96 3 (.at (.pa κ ver sz i off))) K = evK (todo (off + 3)) (fun o => K (.at (.pa κ ver sz i o))) := fa_pa (fd := ⟨"Ill", 4, 3, false, "", "", 24⟩) Tryz.underlying96 rfl sz_bool
theorem fb_implMember_3 {κ ver off : Nat} {K : AV -> Prop} : onO (fieldAddrS Tryz.prog 96 3 (.at (.bx κ ver off))) K = evK (todo (off + 3)) (fun o => K (.at (.bx κ ver o))) := fa_bx (fd := ⟨"Ill", 4, 3, false, "", "", 24⟩) Tryz.underlying96 rfl sz_bool
attribute [go_sem] fp_implMember_3 fo_implMember_3 fb_implMember_3
theorem lb_implMember {m : Mem} {κ ver off : Nat} {K : AV -> Prop} : onR (loadS Tryz.prog 96 m (.at (.bx κ ver off))) K = boxAt (todo (m κ)) ver fun cells => off + 4 <= cells.length /\ evK (todo ((cells.drop off).take 4)) fun cs => K (.ag cs) := load_bxKN agg_implMember sz_implMember
theorem sb_implMember {m : Mem} {κ ver off : Nat} {X : AV} {K : Mem -> Prop} : onR (storeS Tryz.prog 96 m (.at (.bx κ ver off)) X) K = boxAt (todo (m κ)) ver fun cells => onO (todo (atomsOf X)) fun new => new.length = 4 /\ off + 4 <= cells.length /\ evK (todo (splice cells off new)) fun cs => K (upd m κ (.box ver cs)) := store_bxK sz_implMember
theorem sp_implMember {m : Mem} {κ ver sz j off : Nat} {X : AV} {K : Mem -> Prop} : onR (storeS Tryz.prog 96 m (.at (.pa κ ver sz j off)) X) K = arrAt (todo (m κ)) ver sz fun rows => onO (todo ((atomsOf X).bind valsOf)) fun us => us.length = 4 /\ (j < rows.length /\ off + 4 <= sz) /\ evK (todo (rows.set j (splice (rows.getD j []) off us))) fun rs => K (upd m κ (.arr ver sz rs)) := store_paK sz_implMember
attribute [go_sem] lb_implMember sb_implMember sp_implMember
theorem und_implMemberS : Tryz.prog.underlying 30 = some (.slice 96) := Tryz.underlying30
theorem agg_implMemberS : aggT Tryz.prog 30 = some false := by kernel_rfl
theorem sz_implMemberS : szT Tryz.prog 30 = some 1 := by kernel_rfl
theorem ix_implMemberS {rows : List (List Value)} {k : IntKind} {i : Int} {K : AV -> Prop} : onR (indexAddrS Tryz.prog 30 (.at (.im 4 rows)) (.at (.v (.int k i)))) K = ((0 <= i /\ i < (rows.length : Int)) /\ ∀ r, rows[i.toNat]? = some r -> K (.at (.pi r))) := idx_im und_implMemberS sz_implMember
theorem io_implMemberS {κ ver n : Nat} {k : IntKind} {i : Int} {K : AV -> Prop} : onR (indexAddrS Tryz.prog 30 (.at (.ow κ ver 4 n)) (.at (.v (.int k i)))) K = ((0 <= i /\ i < (n : Int)) /\ evK (todo i.toNat) fun j => K (.at (.pa κ ver 4 j 0))) := idx_ow und_implMemberS sz_implMember
theorem ln_implMemberS {sz : Nat} {rows : List (List Value)} {K : Value -> Prop} : onO (lenS Tryz.prog 30 (.at (.im sz rows))) K = K (.int .i64 rows.length) := len_im und_implMemberS
theorem lo_implMemberS {κ ver sz n : Nat} {K : Value -> Prop} : onO (lenS Tryz.prog 30 (.at (.ow κ ver sz n))) K = K (.int .i64 n) := len_ow und_implMemberS
theorem si_implMemberS : siOf Tryz.prog 30 = some ⟨96, 4, 32, [.int .i64 0, .int .i64 0, .int .i64 0, .bool false]⟩ := by kernel_rfl
attribute [go_sem] ix_implMemberS io_implMemberS ln_implMemberS lo_implMemberS si_implMemberS
attribute [go_sem] sz_implMemberS
theorem lb_implMemberS {m : Mem} {κ ver off : Nat} {K : AV -> Prop} : onR (loadS Tryz.prog 30 m (.at (.bx κ ver off))) K = boxAt (todo (m κ)) ver fun cells => onO (todo cells[off]?) fun a => K (.at a) := load_bxK1 agg_implMemberS
theorem sb_implMemberS {m : Mem} {κ ver off : Nat} {X : AV} {K : Mem -> Prop} : onR (storeS Tryz.prog 30 m (.at (.bx κ ver off)) X) K = boxAt (todo (m κ)) ver fun cells => onO (todo (atomsOf X)) fun new => new.length = 1 /\ off + 1 <= cells.length /\ evK (todo (splice cells off new)) fun cs => K (upd m κ (.box ver cs)) := store_bxK sz_implMemberS
attribute [go_sem] lb_implMemberS sb_implMemberS
theorem agg_implDepot : aggT Tryz.prog 80 = some true := by kernel_rfl
theorem sz_implDepot : szT Tryz.prog 80 = some 2 := by kernel_rfl
theorem za_implDepot : zeroAtoms Tryz.prog 80 = some [.v (.int .i64 0), .v (.int .i64 0)] := by kernel_rfl
attribute [go_sem] za_implDepot
theorem ld_implDepot {m : Mem} {cs : List Value} {K : AV -> Prop} : onR (loadS Tryz.prog 80 m (.at (.pi cs))) K = (2 <= cs.length /\ evK (todo ((cs.take 2).map A.v)) fun cs => K (.ag cs)) := load_piN agg_implDepot sz_implDepot
theorem ti_implDepot : tiOf Tryz.prog 80 = some ⟨[⟨"Cell", 3, 0, false, "", "", 0⟩, ⟨"Food", 3, 1, false, "", "", 8⟩], [.v (.int .i64 0), .v (.int .i64 0)]⟩ := by kernel_rfl
attribute [go_sem] ld_implDepot ti_implDepot
theorem fp_implDepot_0 {cs : List Value} {K : AV -> Prop} : onO (fieldAddrS Tryz.prog 80 0 (.at (.pi cs))) K = evK (todo (cs.drop 0)) (fun c => K (.at (.pi c))) := fa_pi (fd := ⟨"Cell", 3, 0, false, "", "", 0⟩) Tryz.underlying80 rfl sz_int
theorem fo_implDepot_0 {κ ver sz i off : Nat} {K : AV -> Prop} : onO (fieldAddrS Tryz.prog 80 0 (.at (.pa κ ver sz i off))) K = evK (todo (off + 0)) (fun o => K (.at (.pa κ ver sz i o))) := fa_pa (fd := ⟨"Cell", 3, 0, false, "", "", 0⟩) Tryz.underlying80 rfl sz_int
theorem fb_implDepot_0 {κ ver off : Nat} {K : AV -> Prop} : onO (fieldAddrS Tryz.prog 80 0 (.at (.bx κ ver off))) K = evK (todo (off + 0)) (fun o => K (.at (.bx κ ver o))) := fa_bx (fd := ⟨"Cell", 3, 0, false, "", "", 0⟩) Tryz.underlying80 rfl sz_int
attribute [go_sem] fp_implDepot_0 fo_implDepot_0 fb_implDepot_0
theorem fp_implDepot_1 {cs : List Value} {K : AV -> Prop} : onO (fieldAddrS Tryz.prog 80 1 (.at (.pi cs))) K = evK (todo (cs.drop 1)) (fun c => K (.at (.pi c))) := fa_pi (fd := ⟨"Food", 3, 1, false, "", "", 8⟩) Tryz.underlying80 rfl sz_int
theorem fo_implDepot_1 {κ ver sz i off : Nat} {K : AV -> Prop} : onO (fieldAddrS Tryz.prog 80 1 (.at (.pa κ ver sz i off))) K = evK (todo (off + 1)) (fun o => K (.at (.pa κ ver sz i o))) := fa_pa (fd := ⟨"Food", 3, 1, false, "", "", 8⟩) Tryz.underlying80 rfl sz_int
theorem fb_implDepot_1 {κ ver off : Nat} {K : AV -> Prop} : onO (fieldAddrS Tryz.prog 80 1 (.at (.bx κ ver off))) K = evK (todo (off + 1)) (fun o => K (.at (.bx κ ver o))) := fa_bx (fd := ⟨"Food", 3, 1, false, "", "", 8⟩) Tryz.underlying80 rfl sz_int
attribute [go_sem] fp_implDepot_1 fo_implDepot_1 fb_implDepot_1
theorem lb_implDepot {m : Mem} {κ ver off : Nat} {K : AV -> Prop} : onR (loadS Tryz.prog 80 m (.at (.bx κ ver off))) K = boxAt (todo (m κ)) ver fun cells => off + 2 <= cells.length /\ evK (todo ((cells.drop off).take 2)) fun cs => K (.ag cs) := load_bxKN agg_implDepot sz_implDepot
theorem sb_implDepot {m : Mem} {κ ver off : Nat} {X : AV} {K : Mem -> Prop} : onR (storeS Tryz.prog 80 m (.at (.bx κ ver off)) X) K = boxAt (todo (m κ)) ver fun cells => onO (todo (atomsOf X)) fun new => new.length = 2 /\ off + 2 <= cells.length /\ evK (todo (splice cells off new)) fun cs => K (upd m κ (.box ver cs)) := store_bxK sz_implDepot
theorem sp_implDepot {m : Mem} {κ ver sz j off : Nat} {X : AV} {K : Mem -> Prop} : onR (storeS Tryz.prog 80 m (.at (.pa κ ver sz j off)) X) K = arrAt (todo (m κ)) ver sz fun rows => onO (todo ((atomsOf X).bind valsOf)) fun us => us.length = 2 /\ (j < rows.length /\ off + 2 <= sz) /\ evK (todo (rows.set j (splice (rows.getD j []) off us))) fun rs => K (upd m κ (.arr ver sz rs)) := store_paK sz_implDepot
attribute [go_sem] lb_implDepot sb_implDepot sp_implDepot
theorem und_implDepotS : Tryz.prog.underlying 29 = some (.slice 80) := Tryz.underlying29
theorem agg_implDepotS : aggT Tryz.prog 29 = some false := by kernel_rfl
theorem sz_implDepotS : szT Tryz.prog 29 = some 1 := by kernel_rfl
theorem ix_implDepotS {rows : List (List Value)} {k : IntKind} {i : Int} {K : AV -> Prop} : onR (indexAddrS Tryz.prog 29 (.at (.im 2 rows)) (.at (.v (.int k i)))) K = ((0 <= i /\ i < (rows.length : Int)) /\ ∀ r, rows[i.toNat]? = some r -> K (.at (.pi r))) := idx_im und_implDepotS sz_implDepot
theorem io_implDepotS {κ ver n : Nat} {k : IntKind} {i : Int} {K : AV -> Prop} : onR (indexAddrS Tryz.prog 29 (.at (.ow κ ver 2 n)) (.at (.v (.int k i)))) K = ((0 <= i /\ i < (n : Int)) /\ evK (todo i.toNat) fun j => K (.at (.pa κ ver 2 j 0))) := idx_ow und_implDepotS sz_implDepot
theorem ln_implDepotS {sz : Nat} {rows : List (List Value)} {K : Value -> Prop} : onO (lenS Tryz.prog 29 (.at (.im sz rows))) K = K (.int .i64 rows.length) := len_im und_implDepotS
theorem lo_implDepotS {κ ver sz n : Nat} {K : Value -> Prop} : onO (lenS Tryz.prog 29 (.at (.ow κ ver sz n))) K = K (.int .i64 n) := len_ow und_implDepotS
theorem si_implDepotS : siOf Tryz.prog 29 = some ⟨80, 2, 16, [.int .i64 0, .int .i64 0]⟩ := by kernel_rfl
attribute [go_sem] ix_implDepotS io_implDepotS ln_implDepotS lo_implDepotS si_implDepotS
attribute [go_sem] sz_implDepotS
theorem lb_implDepotS {m : Mem} {κ ver off : Nat} {K : AV -> Prop} : onR (loadS Tryz.prog 29 m (.at (.bx κ ver off))) K = boxAt (todo (m κ)) ver fun cells => onO (todo cells[off]?) fun a => K (.at a) := load_bxK1 agg_implDepotS
theorem sb_implDepotS {m : Mem} {κ ver off : Nat} {X : AV} {K : Mem -> Prop} : onR (storeS Tryz.prog 29 m (.at (.bx κ ver off)) X) K = boxAt (todo (m κ)) ver fun cells => onO (todo (atomsOf X)) fun new => new.length = 1 /\ off + 1 <= cells.length /\ evK (todo (splice cells off new)) fun cs => K (upd m κ (.box ver cs)) := store_bxK sz_implDepotS
attribute [go_sem] lb_implDepotS sb_implDepotS
theorem agg_implParty : aggT Tryz.prog 33 = some true := by kernel_rfl
theorem sz_implParty : szT Tryz.prog 33 = some 4 := by kernel_rfl
theorem za_implParty : zeroAtoms Tryz.prog 33 = some [.v (.int .i64 0), .v (.int .i64 0), .nil, .nil] := by kernel_rfl
attribute [go_sem] za_implParty sz_implParty
theorem ti_implParty : tiOf Tryz.prog 33 = some ⟨[⟨"At", 3, 0, false, "", "", 0⟩, ⟨"Food", 3, 1, false, "", "", 8⟩, ⟨"Crew", 30, 2, false, "", "", 16⟩, ⟨"Past", 31, 3, false, "", "", 40⟩], [.v (.int .i64 0), .v (.int .i64 0), .nil, .nil]⟩ := by kernel_rfl
attribute [go_sem] ti_implParty
theorem fb_implParty_0 {κ ver off : Nat} {K : AV -> Prop} : onO (fieldAddrS Tryz.prog 33 0 (.at (.bx κ ver off))) K = evK (todo (off + 0)) (fun o => K (.at (.bx κ ver o))) := fa_bx (fd := ⟨"At", 3, 0, false, "", "", 0⟩) Tryz.underlying33 rfl sz_int
attribute [go_sem] fb_implParty_0
theorem fb_implParty_1 {κ ver off : Nat} {K : AV -> Prop} : onO (fieldAddrS Tryz.prog 33 1 (.at (.bx κ ver off))) K = evK (todo (off + 1)) (fun o => K (.at (.bx κ ver o))) := fa_bx (fd := ⟨"Food", 3, 1, false, "", "", 8⟩) Tryz.underlying33 rfl sz_int
attribute [go_sem] fb_implParty_1
theorem fb_implParty_2 {κ ver off : Nat} {K : AV -> Prop} : onO (fieldAddrS Tryz.prog 33 2 (.at (.bx κ ver off))) K = evK (todo (off + 2)) (fun o => K (.at (.bx κ ver o))) := fa_bx (fd := ⟨"Crew", 30, 2, false, "", "", 16⟩) Tryz.underlying33 rfl sz_implMemberS
attribute [go_sem] fb_implParty_2
theorem fb_implParty_3 {κ ver off : Nat} {K : AV -> Prop} : onO (fieldAddrS Tryz.prog 33 3 (.at (.bx κ ver off))) K = evK (todo (off + 3)) (fun o => K (.at (.bx κ ver o))) := fa_bx (fd := ⟨"Past", 31, 3, false, "", "", 40⟩) Tryz.underlying33 rfl sz_boolS
attribute [go_sem] fb_implParty_3
theorem lb_implParty {m : Mem} {κ ver off : Nat} {K : AV -> Prop} : onR (loadS Tryz.prog 33 m (.at (.bx κ ver off))) K = boxAt (todo (m κ)) ver fun cells => off + 4 <= cells.length /\ evK (todo ((cells.drop off).take 4)) fun cs => K (.ag cs) := load_bxKN agg_implParty sz_implParty
theorem sb_implParty {m : Mem} {κ ver off : Nat} {X : AV} {K : Mem -> Prop} : onR (storeS Tryz.prog 33 m (.at (.bx κ ver off)) X) K = boxAt (todo (m κ)) ver fun cells => onO (todo (atomsOf X)) fun new => new.length = 4 /\ off + 4 <= cells.length /\ evK (todo (splice cells off new)) fun cs => K (upd m κ (.box ver cs)) := store_bxK sz_implParty
attribute [go_sem] lb_implParty sb_implParty
theorem agg_implTrek : aggT Tryz.prog 36 = some true := by kernel_rfl
theorem sz_implTrek : szT Tryz.prog 36 = some 15 := by kernel_rfl
theorem za_implTrek : zeroAtoms Tryz.prog 36 = some [.v (.int .i64 0), .v (.int .i64 0), .nil, .v (.int .i64 0), .v (.int .i64 0), .v (.int .i64 0), .nil, .v (.int .i64 0), .v (.int .i64 0), .nil, .nil, .nil, .v (.int .i64 0), .v (.int .i64 0), .v (.int .i64 0)] := by kernel_rfl
attribute [go_sem] za_implTrek
theorem ti_implTrek : tiOf Tryz.prog 36 = some ⟨[⟨"Land", 26, 0, false, "", "", 0⟩, ⟨"Base", 3, 3, false, "", "", 40⟩, ⟨"Rule", 28, 4, false, "", "", 48⟩, ⟨"Depots", 29, 6, false, "", "", 64⟩, ⟨"Party", 33, 7, false, "", "", 88⟩, ⟨"Journal", 34, 11, false, "", "", 152⟩, ⟨"Day", 3, 12, false, "", "", 176⟩, ⟨"Given", 3, 13, false, "", "", 184⟩, ⟨"Eaten", 3, 14, false, "", "", 192⟩], [.v (.int .i64 0), .v (.int .i64 0), .nil, .v (.int .i64 0), .v (.int .i64 0), .v (.int .i64 0), .nil, .v (.int .i64 0), .v (.int .i64 0), .nil, .nil, .nil, .v (.int .i64 0), .v (.int .i64 0), .v (.int .i64 0)]⟩ := by kernel_rfl
attribute [go_sem] ti_implTrek
theorem fb_implTrek_0 {κ ver off : Nat} {K : AV -> Prop} : onO (fieldAddrS Tryz.prog 36 0 (.at (.bx κ ver off))) K = evK (todo (off + 0)) (fun o => K (.at (.bx κ ver o))) := fa_bx (fd := ⟨"Land", 26, 0, false, "", "", 0⟩) Tryz.underlying36 rfl sz_implLand
attribute [go_sem] fb_implTrek_0
theorem fb_implTrek_1 {κ ver off : Nat} {K : AV -> Prop} : onO (fieldAddrS Tryz.prog 36 1 (.at (.bx κ ver off))) K = evK (todo (off + 3)) (fun o => K (.at (.bx κ ver o))) := fa_bx (fd := ⟨"Base", 3, 3, false, "", "", 40⟩) Tryz.underlying36 rfl sz_int
attribute [go_sem] fb_implTrek_1
theorem fb_implTrek_2 {κ ver off : Nat} {K : AV -> Prop} : onO (fieldAddrS Tryz.prog 36 2 (.at (.bx κ ver off))) K = evK (todo (off + 4)) (fun o => K (.at (.bx κ ver o))) := fa_bx (fd := ⟨"Rule", 28, 4, false, "", "", 48⟩) Tryz.underlying36 rfl sz_implRule
attribute [go_sem] fb_implTrek_2
theorem fb_implTrek_3 {κ ver off : Nat} {K : AV -> Prop} : onO (fieldAddrS Tryz.prog 36 3 (.at (.bx κ ver off))) K = evK (todo (off + 6)) (fun o => K (.at (.bx κ ver o))) := fa_bx (fd := ⟨"Depots", 29, 6, false, "", "", 64⟩) Tryz.underlying36 rfl sz_implDepotS
attribute [go_sem] fb_implTrek_3
theorem fb_implTrek_4 {κ ver off : Nat} {K : AV -> Prop} : onO (fieldAddrS Tryz.prog 36 4 (.at (.bx κ ver off))) K = evK (todo (off + 7)) (fun o => K (.at (.bx κ ver o))) := fa_bx (fd := ⟨"Party", 33, 7, false, "", "", 88⟩) Tryz.underlying36 rfl sz_implParty
attribute [go_sem] fb_implTrek_4
theorem fb_implTrek_5 {κ ver off : Nat} {K : AV -> Prop} : onO (fieldAddrS Tryz.prog 36 5 (.at (.bx κ ver off))) K = evK (todo (off + 11)) (fun o => K (.at (.bx κ ver o))) := fa_bx (fd := ⟨"Journal", 34, 11, false, "", "", 152⟩) Tryz.underlying36 rfl sz_implPageS
attribute [go_sem] fb_implTrek_5
theorem fb_implTrek_6 {κ ver off : Nat} {K : AV -> Prop} : onO (fieldAddrS Tryz.prog 36 6 (.at (.bx κ ver off))) K = evK (todo (off + 12)) (fun o => K (.at (.bx κ ver o))) := fa_bx (fd := ⟨"Day", 3, 12, false, "", "", 176⟩) Tryz.underlying36 rfl sz_int
attribute [go_sem] fb_implTrek_6
theorem fb_implTrek_7 {κ ver off : Nat} {K : AV -> Prop} : onO (fieldAddrS Tryz.prog 36 7 (.at (.bx κ ver off))) K = evK (todo (off + 13)) (fun o => K (.at (.bx κ ver o))) := fa_bx (fd := ⟨"Given", 3, 13, false, "", "", 184⟩) Tryz.underlying36 rfl sz_int
attribute [go_sem] fb_implTrek_7
theorem fb_implTrek_8 {κ ver off : Nat} {K : AV -> Prop} : onO (fieldAddrS Tryz.prog 36 8 (.at (.bx κ ver off))) K = evK (todo (off + 14)) (fun o => K (.at (.bx κ ver o))) := fa_bx (fd := ⟨"Eaten", 3, 14, false, "", "", 192⟩) Tryz.underlying36 rfl sz_int
attribute [go_sem] fb_implTrek_8
theorem lb_implTrek {m : Mem} {κ ver off : Nat} {K : AV -> Prop} : onR (loadS Tryz.prog 36 m (.at (.bx κ ver off))) K = boxAt (todo (m κ)) ver fun cells => off + 15 <= cells.length /\ evK (todo ((cells.drop off).take 15)) fun cs => K (.ag cs) := load_bxKN agg_implTrek sz_implTrek
theorem sb_implTrek {m : Mem} {κ ver off : Nat} {X : AV} {K : Mem -> Prop} : onR (storeS Tryz.prog 36 m (.at (.bx κ ver off)) X) K = boxAt (todo (m κ)) ver fun cells => onO (todo (atomsOf X)) fun new => new.length = 15 /\ off + 15 <= cells.length /\ evK (todo (splice cells off new)) fun cs => K (upd m κ (.box ver cs)) := store_bxK sz_implTrek
attribute [go_sem] lb_implTrek sb_implTrek
theorem agg_lawsPage : aggT Tryz.prog 159 = some true := by kernel_rfl
theorem sz_lawsPage : szT Tryz.prog 159 = some 4 := by kernel_rfl
theorem ld_lawsPage {m : Mem} {cs : List Value} {K : AV -> Prop} : onR (loadS Tryz.prog 159 m (.at (.pi cs))) K = (4 <= cs.length /\ evK (todo ((cs.take 4).map A.v)) fun cs => K (.ag cs)) := load_piN agg_lawsPage sz_lawsPage
attribute [go_sem] ld_lawsPage
theorem fb_lawsPage_0 {κ ver off : Nat} {K : AV -> Prop} : onO (fieldAddrS Tryz.prog 159 0 (.at (.bx κ ver off))) K = evK (todo (off + 0)) (fun o => K (.at (.bx κ ver o))) := fa_bx (fd := ⟨"Day", 3, 0, false, "", "", 0⟩) Tryz.underlying159 rfl sz_int
attribute [go_sem] fb_lawsPage_0
theorem fb_lawsPage_1 {κ ver off : Nat} {K : AV -> Prop} : onO (fieldAddrS Tryz.prog 159 1 (.at (.bx κ ver off))) K = evK (todo (off + 1)) (fun o => K (.at (.bx κ ver o))) := fa_bx (fd := ⟨"Cell", 3, 1, false, "", "", 8⟩) Tryz.underlying159 rfl sz_int
attribute [go_sem] fb_lawsPage_1
theorem fb_lawsPage_2 {κ ver off : Nat} {K : AV -> Prop} : onO (fieldAddrS Tryz.prog 159 2 (.at (.bx κ ver off))) K = evK (todo (off + 2)) (fun o => K (.at (.bx κ ver o))) := fa_bx (fd := ⟨"Food", 3, 2, false, "", "", 16⟩) Tryz.underlying159 rfl sz_int
attribute [go_sem] fb_lawsPage_2
theorem fb_lawsPage_3 {κ ver off : Nat} {K : AV -> Prop} : onO (fieldAddrS Tryz.prog 159 3 (.at (.bx κ ver off))) K = evK (todo (off + 3)) (fun o => K (.at (.bx κ ver o))) := fa_bx (fd := ⟨"Seal", 3, 3, false, "", "", 24⟩) Tryz.underlying159 rfl sz_int
attribute [go_sem] fb_lawsPage_3
theorem und_lawsPageS : Tryz.prog.underlying 56 = some (.slice 159) := Tryz.underlying56
theorem agg_lawsPageS : aggT Tryz.prog 56 = some false := by kernel_rfl
theorem sz_lawsPageS : szT Tryz.prog 56 = some 1 := by kernel_rfl
theorem ix_lawsPageS {rows : List (List Value)} {k : IntKind} {i : Int} {K : AV -> Prop} : onR (indexAddrS Tryz.prog 56 (.at (.im 4 rows)) (.at (.v (.int k i)))) K = ((0 <= i /\ i < (rows.length : Int)) /\ ∀ r, rows[i.toNat]? = some r -> K (.at (.pi r))) := idx_im und_lawsPageS sz_lawsPage
theorem ln_lawsPageS {sz : Nat} {rows : List (List Value)} {K : Value -> Prop} : onO (lenS Tryz.prog 56 (.at (.im sz rows))) K = K (.int .i64 rows.length) := len_im und_lawsPageS
attribute [go_sem] ix_lawsPageS ln_lawsPageS
theorem lb_lawsPageS {m : Mem} {κ ver off : Nat} {K : AV -> Prop} : onR (loadS Tryz.prog 56 m (.at (.bx κ ver off))) K = boxAt (todo (m κ)) ver fun cells => onO (todo cells[off]?) fun a => K (.at a) := load_bxK1 agg_lawsPageS
attribute [go_sem] lb_lawsPageS
theorem agg_lawsLand : aggT Tryz.prog 50 = some true := by kernel_rfl
theorem sz_lawsLand : szT Tryz.prog 50 = some 3 := by kernel_rfl
theorem fb_lawsLand_0 {κ ver off : Nat} {K : AV -> Prop} : onO (fieldAddrS Tryz.prog 50 0 (.at (.bx κ ver off))) K = evK (todo (off + 0)) (fun o => K (.at (.bx κ ver o))) := fa_bx (fd := ⟨"W", 3, 0, false, "", "", 0⟩) Tryz.underlying50 rfl sz_int
attribute [go_sem] fb_lawsLand_0
theorem fb_lawsLand_1 {κ ver off : Nat} {K : AV -> Prop} : onO (fieldAddrS Tryz.prog 50 1 (.at (.bx κ ver off))) K = evK (todo (off + 1)) (fun o => K (.at (.bx κ ver o))) := fa_bx (fd := ⟨"H", 3, 1, false, "", "", 8⟩) Tryz.underlying50 rfl sz_int
attribute [go_sem] fb_lawsLand_1
theorem fb_lawsLand_2 {κ ver off : Nat} {K : AV -> Prop} : onO (fieldAddrS Tryz.prog 50 2 (.at (.bx κ ver off))) K = evK (todo (off + 2)) (fun o => K (.at (.bx κ ver o))) := fa_bx (fd := ⟨"Cells", 24, 2, false, "", "", 16⟩) Tryz.underlying50 rfl sz_intS
attribute [go_sem] fb_lawsLand_2
theorem lb_lawsLand {m : Mem} {κ ver off : Nat} {K : AV -> Prop} : onR (loadS Tryz.prog 50 m (.at (.bx κ ver off))) K = boxAt (todo (m κ)) ver fun cells => off + 3 <= cells.length /\ evK (todo ((cells.drop off).take 3)) fun cs => K (.ag cs) := load_bxKN agg_lawsLand sz_lawsLand
attribute [go_sem] lb_lawsLand
theorem agg_lawsRule : aggT Tryz.prog 51 = some true := by kernel_rfl
theorem sz_lawsRule : szT Tryz.prog 51 = some 2 := by kernel_rfl
theorem fb_lawsRule_0 {κ ver off : Nat} {K : AV -> Prop} : onO (fieldAddrS Tryz.prog 51 0 (.at (.bx κ ver off))) K = evK (todo (off + 0)) (fun o => K (.at (.bx κ ver o))) := fa_bx (fd := ⟨"Most", 3, 0, false, "", "", 0⟩) Tryz.underlying51 rfl sz_int
attribute [go_sem] fb_lawsRule_0
theorem fb_lawsRule_1 {κ ver off : Nat} {K : AV -> Prop} : onO (fieldAddrS Tryz.prog 51 1 (.at (.bx κ ver off))) K = evK (todo (off + 1)) (fun o => K (.at (.bx κ ver o))) := fa_bx (fd := ⟨"Window", 3, 1, false, "", "", 8⟩) Tryz.underlying51 rfl sz_int
attribute [go_sem] fb_lawsRule_1
theorem lb_lawsRule {m : Mem} {κ ver off : Nat} {K : AV -> Prop} : onR (loadS Tryz.prog 51 m (.at (.bx κ ver off))) K = boxAt (todo (m κ)) ver fun cells => off + 2 <= cells.length /\ evK (todo ((cells.drop off).take 2)) fun cs => K (.ag cs) := load_bxKN agg_lawsRule sz_lawsRule
attribute [go_sem] lb_lawsRule
theorem agg_lawsMember : aggT Tryz.prog 209 = some true := by kernel_rfl
theorem sz_lawsMember : szT Tryz.prog 209 = some 4 := by kernel_rfl
theorem ld_lawsMember {m : Mem} {cs : List Value} {K : AV -> Prop} : onR (loadS Tryz.prog 209 m (.at (.pi cs))) K = (4 <= cs.length /\ evK (todo ((cs.take 4).map A.v)) fun cs => K (.ag cs)) := load_piN agg_lawsMember sz_lawsMember
attribute [go_sem] ld_lawsMember
theorem fb_lawsMember_0 {κ ver off : Nat} {K : AV -> Prop} : onO (fieldAddrS Tryz.prog 209 0 (.at (.bx κ ver off))) K = evK (todo (off + 0)) (fun o => K (.at (.bx κ ver o))) := fa_bx (fd := ⟨"Id", 3, 0, false, "", "", 0⟩) Tryz.underlying209 rfl sz_int
attribute [go_sem] fb_lawsMember_0
theorem fb_lawsMember_1 {κ ver off : Nat} {K : AV -> Prop} : onO (fieldAddrS Tryz.prog 209 1 (.at (.bx κ ver off))) K = evK (todo (off + 1)) (fun o => K (.at (.bx κ ver o))) := fa_bx (fd := ⟨"Strength", 3, 1, false, "", "", 8⟩) Tryz.underlying209 rfl sz_int
attribute [go_sem] fb_lawsMember_1
theorem fb_lawsMember_2 {κ ver off : Nat} {K : AV -> Prop} : onO (fieldAddrS Tryz.prog 209 2 (.at (.bx κ ver off))) K = evK (todo (off + 2)) (fun o => K (.at (.bx κ ver o))) := fa_bx (fd := ⟨"Need", 3, 2, false, "", "", 16⟩) Tryz.underlying209 rfl sz_int
attribute [go_sem] fb_lawsMember_2
theorem fb_lawsMember_3 {κ ver off : Nat} {K : AV -> Prop} : onO (fieldAddrS Tryz.prog 209 3 (.at (.bx κ ver off))) K = evK (todo (off + 3)) (fun o => K (.at (.bx κ ver o))) := fa_bx (fd := ⟨"Ill", 4, 3, false, "", "", 24⟩) Tryz.underlying209 rfl sz_bool
attribute [go_sem] fb_lawsMember_3
theorem und_lawsMemberS : Tryz.prog.underlying 53 = some (.slice 209) := Tryz.underlying53
theorem agg_lawsMemberS : aggT Tryz.prog 53 = some false := by kernel_rfl
theorem sz_lawsMemberS : szT Tryz.prog 53 = some 1 := by kernel_rfl
theorem ix_lawsMemberS {rows : List (List Value)} {k : IntKind} {i : Int} {K : AV -> Prop} : onR (indexAddrS Tryz.prog 53 (.at (.im 4 rows)) (.at (.v (.int k i)))) K = ((0 <= i /\ i < (rows.length : Int)) /\ ∀ r, rows[i.toNat]? = some r -> K (.at (.pi r))) := idx_im und_lawsMemberS sz_lawsMember
theorem ln_lawsMemberS {sz : Nat} {rows : List (List Value)} {K : Value -> Prop} : onO (lenS Tryz.prog 53 (.at (.im sz rows))) K = K (.int .i64 rows.length) := len_im und_lawsMemberS
attribute [go_sem] ix_lawsMemberS ln_lawsMemberS
theorem lb_lawsMemberS {m : Mem} {κ ver off : Nat} {K : AV -> Prop} : onR (loadS Tryz.prog 53 m (.at (.bx κ ver off))) K = boxAt (todo (m κ)) ver fun cells => onO (todo cells[off]?) fun a => K (.at a) := load_bxK1 agg_lawsMemberS
attribute [go_sem] lb_lawsMemberS
theorem agg_lawsDepot : aggT Tryz.prog 155 = some true := by kernel_rfl
theorem sz_lawsDepot : szT Tryz.prog 155 = some 2 := by kernel_rfl
theorem ld_lawsDepot {m : Mem} {cs : List Value} {K : AV -> Prop} : onR (loadS Tryz.prog 155 m (.at (.pi cs))) K = (2 <= cs.length /\ evK (todo ((cs.take 2).map A.v)) fun cs => K (.ag cs)) := load_piN agg_lawsDepot sz_lawsDepot
attribute [go_sem] ld_lawsDepot
theorem fb_lawsDepot_0 {κ ver off : Nat} {K : AV -> Prop} : onO (fieldAddrS Tryz.prog 155 0 (.at (.bx κ ver off))) K = evK (todo (off + 0)) (fun o => K (.at (.bx κ ver o))) := fa_bx (fd := ⟨"Cell", 3, 0, false, "", "", 0⟩) Tryz.underlying155 rfl sz_int
attribute [go_sem] fb_lawsDepot_0
theorem fb_lawsDepot_1 {κ ver off : Nat} {K : AV -> Prop} : onO (fieldAddrS Tryz.prog 155 1 (.at (.bx κ ver off))) K = evK (todo (off + 1)) (fun o => K (.at (.bx κ ver o))) := fa_bx (fd := ⟨"Food", 3, 1, false, "", "", 8⟩) Tryz.underlying155 rfl sz_int
attribute [go_sem] fb_lawsDepot_1
theorem und_lawsDepotS : Tryz.prog.underlying 52 = some (.slice 155) := Tryz.underlying52
theorem agg_lawsDepotS : aggT Tryz.prog 52 = some false := by kernel_rfl
theorem sz_lawsDepotS : szT Tryz.prog 52 = some 1 := by kernel_rfl
theorem ix_lawsDepotS {rows : List (List Value)} {k : IntKind} {i : Int} {K : AV -> Prop} : onR (indexAddrS Tryz.prog 52 (.at (.im 2 rows)) (.at (.v (.int k i)))) K = ((0 <= i /\ i < (rows.length : Int)) /\ ∀ r, rows[i.toNat]? = some r -> K (.at (.pi r))) := idx_im und_lawsDepotS sz_lawsDepot
theorem ln_lawsDepotS {sz : Nat} {rows : List (List Value)} {K : Value -> Prop} : onO (lenS Tryz.prog 52 (.at (.im sz rows))) K = K (.int .i64 rows.length) := len_im und_lawsDepotS
attribute [go_sem] ix_lawsDepotS ln_lawsDepotS
theorem lb_lawsDepotS {m : Mem} {κ ver off : Nat} {K : AV -> Prop} : onR (loadS Tryz.prog 52 m (.at (.bx κ ver off))) K = boxAt (todo (m κ)) ver fun cells => onO (todo cells[off]?) fun a => K (.at a) := load_bxK1 agg_lawsDepotS
attribute [go_sem] lb_lawsDepotS
theorem agg_lawsParty : aggT Tryz.prog 55 = some true := by kernel_rfl
theorem sz_lawsParty : szT Tryz.prog 55 = some 4 := by kernel_rfl
theorem fb_lawsParty_0 {κ ver off : Nat} {K : AV -> Prop} : onO (fieldAddrS Tryz.prog 55 0 (.at (.bx κ ver off))) K = evK (todo (off + 0)) (fun o => K (.at (.bx κ ver o))) := fa_bx (fd := ⟨"At", 3, 0, false, "", "", 0⟩) Tryz.underlying55 rfl sz_int
attribute [go_sem] fb_lawsParty_0
theorem fb_lawsParty_1 {κ ver off : Nat} {K : AV -> Prop} : onO (fieldAddrS Tryz.prog 55 1 (.at (.bx κ ver off))) K = evK (todo (off + 1)) (fun o => K (.at (.bx κ ver o))) := fa_bx (fd := ⟨"Food", 3, 1, false, "", "", 8⟩) Tryz.underlying55 rfl sz_int
attribute [go_sem] fb_lawsParty_1
theorem fb_lawsParty_2 {κ ver off : Nat} {K : AV -> Prop} : onO (fieldAddrS Tryz.prog 55 2 (.at (.bx κ ver off))) K = evK (todo (off + 2)) (fun o => K (.at (.bx κ ver o))) := fa_bx (fd := ⟨"Crew", 53, 2, false, "", "", 16⟩) Tryz.underlying55 rfl sz_lawsMemberS
attribute [go_sem] fb_lawsParty_2
theorem fb_lawsParty_3 {κ ver off : Nat} {K : AV -> Prop} : onO (fieldAddrS Tryz.prog 55 3 (.at (.bx κ ver off))) K = evK (todo (off + 3)) (fun o => K (.at (.bx κ ver o))) := fa_bx (fd := ⟨"Past", 31, 3, false, "", "", 40⟩) Tryz.underlying55 rfl sz_boolS
attribute [go_sem] fb_lawsParty_3
theorem lb_lawsParty {m : Mem} {κ ver off : Nat} {K : AV -> Prop} : onR (loadS Tryz.prog 55 m (.at (.bx κ ver off))) K = boxAt (todo (m κ)) ver fun cells => off + 4 <= cells.length /\ evK (todo ((cells.drop off).take 4)) fun cs => K (.ag cs) := load_bxKN agg_lawsParty sz_lawsParty
attribute [go_sem] lb_lawsParty
theorem agg_lawsTrek : aggT Tryz.prog 58 = some true := by kernel_rfl
theorem sz_lawsTrek : szT Tryz.prog 58 = some 15 := by kernel_rfl
theorem fb_lawsTrek_0 {κ ver off : Nat} {K : AV -> Prop} : onO (fieldAddrS Tryz.prog 58 0 (.at (.bx κ ver off))) K = evK (todo (off + 0)) (fun o => K (.at (.bx κ ver o))) := fa_bx (fd := ⟨"Land", 50, 0, false, "", "", 0⟩) Tryz.underlying58 rfl sz_lawsLand
attribute [go_sem] fb_lawsTrek_0
theorem fb_lawsTrek_1 {κ ver off : Nat} {K : AV -> Prop} : onO (fieldAddrS Tryz.prog 58 1 (.at (.bx κ ver off))) K = evK (todo (off + 3)) (fun o => K (.at (.bx κ ver o))) := fa_bx (fd := ⟨"Base", 3, 3, false, "", "", 40⟩) Tryz.underlying58 rfl sz_int
attribute [go_sem] fb_lawsTrek_1
theorem fb_lawsTrek_2 {κ ver off : Nat} {K : AV -> Prop} : onO (fieldAddrS Tryz.prog 58 2 (.at (.bx κ ver off))) K = evK (todo (off + 4)) (fun o => K (.at (.bx κ ver o))) := fa_bx (fd := ⟨"Rule", 51, 4, false, "", "", 48⟩) Tryz.underlying58 rfl sz_lawsRule
attribute [go_sem] fb_lawsTrek_2
theorem fb_lawsTrek_3 {κ ver off : Nat} {K : AV -> Prop} : onO (fieldAddrS Tryz.prog 58 3 (.at (.bx κ ver off))) K = evK (todo (off + 6)) (fun o => K (.at (.bx κ ver o))) := fa_bx (fd := ⟨"Depots", 52, 6, false, "", "", 64⟩) Tryz.underlying58 rfl sz_lawsDepotS
attribute [go_sem] fb_lawsTrek_3
theorem fb_lawsTrek_4 {κ ver off : Nat} {K : AV -> Prop} : onO (fieldAddrS Tryz.prog 58 4 (.at (.bx κ ver off))) K = evK (todo (off + 7)) (fun o => K (.at (.bx κ ver o))) := fa_bx (fd := ⟨"Party", 55, 7, false, "", "", 88⟩) Tryz.underlying58 rfl sz_lawsParty
attribute [go_sem] fb_lawsTrek_4
theorem fb_lawsTrek_5 {κ ver off : Nat} {K : AV -> Prop} : onO (fieldAddrS Tryz.prog 58 5 (.at (.bx κ ver off))) K = evK (todo (off + 11)) (fun o => K (.at (.bx κ ver o))) := fa_bx (fd := ⟨"Journal", 56, 11, false, "", "", 152⟩) Tryz.underlying58 rfl sz_lawsPageS
attribute [go_sem] fb_lawsTrek_5
theorem fb_lawsTrek_6 {κ ver off : Nat} {K : AV -> Prop} : onO (fieldAddrS Tryz.prog 58 6 (.at (.bx κ ver off))) K = evK (todo (off + 12)) (fun o => K (.at (.bx κ ver o))) := fa_bx (fd := ⟨"Day", 3, 12, false, "", "", 176⟩) Tryz.underlying58 rfl sz_int
attribute [go_sem] fb_lawsTrek_6
theorem fb_lawsTrek_7 {κ ver off : Nat} {K : AV -> Prop} : onO (fieldAddrS Tryz.prog 58 7 (.at (.bx κ ver off))) K = evK (todo (off + 13)) (fun o => K (.at (.bx κ ver o))) := fa_bx (fd := ⟨"Given", 3, 13, false, "", "", 184⟩) Tryz.underlying58 rfl sz_int
attribute [go_sem] fb_lawsTrek_7
theorem fb_lawsTrek_8 {κ ver off : Nat} {K : AV -> Prop} : onO (fieldAddrS Tryz.prog 58 8 (.at (.bx κ ver off))) K = evK (todo (off + 14)) (fun o => K (.at (.bx κ ver o))) := fa_bx (fd := ⟨"Eaten", 3, 14, false, "", "", 192⟩) Tryz.underlying58 rfl sz_int
attribute [go_sem] fb_lawsTrek_8
theorem lb_lawsTrek {m : Mem} {κ ver off : Nat} {K : AV -> Prop} : onR (loadS Tryz.prog 58 m (.at (.bx κ ver off))) K = boxAt (todo (m κ)) ver fun cells => off + 15 <= cells.length /\ evK (todo ((cells.drop off).take 15)) fun cs => K (.ag cs) := load_bxKN agg_lawsTrek sz_lawsTrek
attribute [go_sem] lb_lawsTrek
end Go.Abs
